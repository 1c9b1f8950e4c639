/- The document's cursor: Read of a number. No statement is proved here. -/
import Derived.Test.YtdcinifcpaldiaaDoorRunvar
namespace Go.Proofs.YtdcinifcpaldiaaDoor
open Go.RowKit

/-- The document's cursor in block cb: the bytes l, which lie in block bb, the error e. -/
def RCur (w : World) (cb bb e : Nat) (l : List Nat) : Prop :=
  cb ≠ bb ∧ ∃ (a : Option Addr) (cap : Nat), Blk w cb #[.slice a l.length cap, .int .i64 (e : Int)] 90 ∧ Lies w bb a cap l
theorem RCur.only {S : Nat → Prop} {w w' : World} {cb bb e : Nat} {l : List Nat} (h : RCur w cb bb e l) (ho : Only S w w') (h1 : ¬ S cb) (h2 : ¬ S bb) : RCur w' cb bb e l := by
  obtain ⟨hne, a, cap, hb, hl⟩ := h
  exact ⟨hne, a, cap, ho.blk hb h1, hl.only ho h2⟩
theorem RCur.no {w w' : World} {cb bb e : Nat} {l : List Nat} (h : RCur w cb bb e l) (ho : Only No w w') : RCur w' cb bb e l := h.only ho id id
theorem RCur.lt {w : World} {cb bb e : Nat} {l : List Nat} (h : RCur w cb bb e l) : cb < w.heap.size := by
  obtain ⟨hne, a, cap, hb, hl⟩ := h
  exact hb.lt
def pieceL (x : Nat) : List Value := [.int .i64 0, .int .u64 (x : Int), .int .u8 0, .int .u8 0, .int .u8 0, .int .u8 0, .int .u8 0, .int .u8 0, .int .u8 0, .int .u8 0, .int .u8 0, .slice none 0 0, .int .i64 0]
def pieceV (x : Nat) : Value := .agg #[.int .i64 0, .int .u64 (x : Int), .int .u8 0, .int .u8 0, .int .u8 0, .int .u8 0, .int .u8 0, .int .u8 0, .int .u8 0, .int .u8 0, .int .u8 0, .slice none 0 0, .int .i64 0]
theorem piece_cells {w : World} {b x : Nat} (h : Blk w b (pieceL x).toArray 94) : w.cell? ⟨b, 0, none⟩ = some (.int .i64 0) ∧ w.cell? ⟨b, 1, none⟩ = some (.int .u64 (x : Int)) ∧ w.cell? ⟨b, 2, none⟩ = some (.int .u8 0) ∧ w.cell? ⟨b, 3, none⟩ = some (.int .u8 0) ∧ w.cell? ⟨b, 4, none⟩ = some (.int .u8 0) ∧ w.cell? ⟨b, 5, none⟩ = some (.int .u8 0) ∧ w.cell? ⟨b, 6, none⟩ = some (.int .u8 0) ∧ w.cell? ⟨b, 7, none⟩ = some (.int .u8 0) ∧ w.cell? ⟨b, 8, none⟩ = some (.int .u8 0) ∧ w.cell? ⟨b, 9, none⟩ = some (.int .u8 0) ∧ w.cell? ⟨b, 10, none⟩ = some (.int .u8 0) ∧ w.cell? ⟨b, 11, none⟩ = some (.slice none 0 0) ∧ w.cell? ⟨b, 12, none⟩ = some (.int .i64 0) :=
  ⟨h.cell 0 _ rfl, h.cell 1 _ rfl, h.cell 2 _ rfl, h.cell 3 _ rfl, h.cell 4 _ rfl, h.cell 5 _ rfl, h.cell 6 _ rfl, h.cell 7 _ rfl, h.cell 8 _ rfl, h.cell 9 _ rfl, h.cell 10 _ rfl, h.cell 11 _ rfl, h.cell 12 _ rfl⟩
theorem piece_free {w : World} {b x : Nat} (h : Blk w b (pieceL x).toArray 94) : w.frozen? ⟨b, 0, none⟩ = false ∧ w.frozen? ⟨b, 1, none⟩ = false ∧ w.frozen? ⟨b, 2, none⟩ = false ∧ w.frozen? ⟨b, 3, none⟩ = false ∧ w.frozen? ⟨b, 4, none⟩ = false ∧ w.frozen? ⟨b, 5, none⟩ = false ∧ w.frozen? ⟨b, 6, none⟩ = false ∧ w.frozen? ⟨b, 7, none⟩ = false ∧ w.frozen? ⟨b, 8, none⟩ = false ∧ w.frozen? ⟨b, 9, none⟩ = false ∧ w.frozen? ⟨b, 10, none⟩ = false ∧ w.frozen? ⟨b, 11, none⟩ = false ∧ w.frozen? ⟨b, 12, none⟩ = false :=
  ⟨h.free 0, h.free 1, h.free 2, h.free 3, h.free 4, h.free 5, h.free 6, h.free 7, h.free 8, h.free 9, h.free 10, h.free 11, h.free 12⟩
theorem piece_sets {w : World} {b x : Nat} (h : Blk w b (pieceL 0).toArray 94) : Blk (((((((((((((w.setCell ⟨b, 0, none⟩ (.int .i64 0)).setCell ⟨b, 1, none⟩ (.int .u64 (x : Int))).setCell ⟨b, 2, none⟩ (.int .u8 0)).setCell ⟨b, 3, none⟩ (.int .u8 0)).setCell ⟨b, 4, none⟩ (.int .u8 0)).setCell ⟨b, 5, none⟩ (.int .u8 0)).setCell ⟨b, 6, none⟩ (.int .u8 0)).setCell ⟨b, 7, none⟩ (.int .u8 0)).setCell ⟨b, 8, none⟩ (.int .u8 0)).setCell ⟨b, 9, none⟩ (.int .u8 0)).setCell ⟨b, 10, none⟩ (.int .u8 0)).setCell ⟨b, 11, none⟩ (.slice none 0 0)).setCell ⟨b, 12, none⟩ (.int .i64 0)) b (pieceL x).toArray 94 := by
  have := (((((((((((((h.set 0 (.int .i64 0)).set 1 (.int .u64 (x : Int))).set 2 (.int .u8 0)).set 3 (.int .u8 0)).set 4 (.int .u8 0)).set 5 (.int .u8 0)).set 6 (.int .u8 0)).set 7 (.int .u8 0)).set 8 (.int .u8 0)).set 9 (.int .u8 0)).set 10 (.int .u8 0)).set 11 (.slice none 0 0)).set 12 (.int .i64 0))
  simp only [pieceL, List.setIfInBounds_toArray, List.set_cons_zero, List.set_cons_succ] at this
  exact this
set_option maxRecDepth 100000 in
set_option maxHeartbeats 4000000 in
theorem Read_off (cb bb e most : Nat) (l : List Nat) (w : World) (h : RCur w cb bb e l) (he : 1 ≤ e) :
    Calls Tryd.prog 65 #[.pointer (some ⟨cb, 0, none⟩), pieceV most] w fun r w' => r = .returned (pieceV 0) ∧ Only No w w' := by
  obtain ⟨hne, a, cap, hb, hl⟩ := h
  have hz : ((e : Int) != 0) = true := by simp; omega
  have hlt := hb.lt
  unfold pieceV
  clear hl
  go_enter Tryd.func65, Tryd.ntmps65
  go_upto_region 2 with (fail)
  generalize hW : ((w.alloc _).alloc _).alloc _ = w3
  have hO3 : Only No w w3 := by rw [← hW]; exact (((Only.refl No w).alloc _).alloc _).alloc _
  have hb3 : Blk w3 w.heap.size (pieceL most).toArray 94 := by rw [← hW]; exact ((Blk.new w _ _).alloc _).alloc _
  have hb4 : Blk w3 (w.heap.size + 1) (pieceL 0).toArray 94 := by
    rw [← hW]
    have := (Blk.new (w.alloc (.cells (pieceL most).toArray 94)) (pieceL 0).toArray 94).alloc (.cells (pieceL 0).toArray 94)
    rw [show (w.alloc (.cells (pieceL most).toArray 94)).heap.size = w.heap.size + 1 by simp] at this
    exact this
  have hb5 : Blk w3 (w.heap.size + 1 + 1) (pieceL 0).toArray 94 := by
    rw [← hW]
    have := Blk.new ((w.alloc (.cells (pieceL most).toArray 94)).alloc (.cells (pieceL 0).toArray 94)) (pieceL 0).toArray 94
    rw [show ((w.alloc (.cells (pieceL most).toArray 94)).alloc (.cells (pieceL 0).toArray 94)).heap.size = w.heap.size + 1 + 1 by simp] at this
    exact this
  have hbc := hO3.blk hb id
  have c1 : w3.cell? ⟨cb, 1, none⟩ = some (.int .i64 (e : Int)) := hbc.cell 1 _ rfl
  clear hW
  obtain ⟨d0, d1, d2, d3, d4, d5, d6, d7, d8, d9, d10, d11, d12⟩ := piece_cells hb5
  obtain ⟨e0, e1, e2, e3, e4, e5, e6, e7, e8, e9, e10, e11, e12⟩ := piece_cells hb4
  obtain ⟨f0, f1, f2, f3, f4, f5, f6, f7, f8, f9, f10, f11, f12⟩ := piece_free hb4
  have hz3 := hO3.size
  have HOn := Lib.hid (fun (W : World) (p : Addr) (v : Value) (h : Only No w W) (hp : w.heap.size ≤ p.block) => h.setCell p v (fun hq => absurd hp (Nat.not_le.2 hq)))
  have HB := Lib.hid (show w.heap.size ≤ w.heap.size + 1 by omega)
  generalize w.heap.size = B at *
  go_wp2
  generalize hWF : World.setCell _ _ _ = WF
  have hOF : Only No w WF := by
    rw [← hWF]
    iterate 13 (refine HOn.out _ _ _ ?_ HB.out)
    exact hO3
  have hbF : Blk WF (B + 1) (pieceL 0).toArray 94 := by
    rw [← hWF]
    exact (((((((((((((hb4.set 0 _).set 1 _).set 2 _).set 3 _).set 4 _).set 5 _).set 6 _).set 7 _).set 8 _).set 9 _).set 10 _).set 11 _).set 12 _)
  obtain ⟨g0, g1, g2, g3, g4, g5, g6, g7, g8, g9, g10, g11, g12⟩ := piece_cells hbF
  clear hWF
  refine bodyPost_ret (v := pieceV 0) (by simp [results, Tryd.results65, go_sem, pieceV, g0, g1, g2, g3, g4, g5, g6, g7, g8, g9, g10, g11, g12]) rfl ⟨rfl, hOF⟩
set_option maxRecDepth 100000 in
set_option maxHeartbeats 8000000 in
theorem Read_on (cb bb most : Nat) (l : List Nat) (w : World) (h : RCur w cb bb 0 l) (hby : ∀ c ∈ l, c < 256) (hlen : l.length ≤ 1000000) :
    Calls Tryd.prog 65 #[.pointer (some ⟨cb, 0, none⟩), pieceV most] w fun r w' => r = .returned (pieceV (numC most l).1) ∧ RCur w' cb bb (numC most l).2.1 (numC most l).2.2 ∧ Only (· = cb) w w' := by
  obtain ⟨hne, a, cap, hb, hl⟩ := h
  obtain ⟨e, he⟩ : ∃ e : Nat, e = 0 := ⟨_, rfl⟩
  have hb' : Blk w cb #[.slice a l.length cap, .int .i64 (e : Int)] 90 := by rw [he]; exact hb
  clear hb
  have hb := hb'
  clear hb'
  have hz : ((e : Int) != 0) = false := by simp; omega
  have hlt := hb.lt
  have HE := Lib.hid he
  clear he
  unfold pieceV
  go_enter Tryd.func65, Tryd.ntmps65
  go_upto_region 2 with (fail)
  generalize hW : ((w.alloc _).alloc _).alloc _ = w3
  have hO3 : Only No w w3 := by rw [← hW]; exact (((Only.refl No w).alloc _).alloc _).alloc _
  have hb3 : Blk w3 w.heap.size (pieceL most).toArray 94 := by rw [← hW]; exact ((Blk.new w _ _).alloc _).alloc _
  have hb4 : Blk w3 (w.heap.size + 1) (pieceL 0).toArray 94 := by
    rw [← hW]
    have := (Blk.new (w.alloc (.cells (pieceL most).toArray 94)) (pieceL 0).toArray 94).alloc (.cells (pieceL 0).toArray 94)
    rw [show (w.alloc (.cells (pieceL most).toArray 94)).heap.size = w.heap.size + 1 by simp] at this
    exact this
  have hb5 : Blk w3 (w.heap.size + 1 + 1) (pieceL 0).toArray 94 := by
    rw [← hW]
    have := Blk.new ((w.alloc (.cells (pieceL most).toArray 94)).alloc (.cells (pieceL 0).toArray 94)) (pieceL 0).toArray 94
    rw [show ((w.alloc (.cells (pieceL most).toArray 94)).alloc (.cells (pieceL 0).toArray 94)).heap.size = w.heap.size + 1 + 1 by simp] at this
    exact this
  have hbc := hO3.blk hb id
  have c1 : w3.cell? ⟨cb, 1, none⟩ = some (.int .i64 (e : Int)) := hbc.cell 1 _ rfl
  clear hW
  have c0 : w3.cell? ⟨cb, 0, none⟩ = some (.slice a l.length cap) := hbc.cell 0 _ rfl
  have HNm := Lib.hid (fun (W : World) (h : Only (· = w.heap.size + 1 + 1) w3 W) => num_c a bb cap most l W (hl.only2 (hO3.of_no.trans h) (fun hq e => by omega)) hby hlen)
  obtain ⟨m0, m1, -⟩ := piece_cells hb3
  obtain ⟨d0, d1, -⟩ := piece_cells hb5
  have x1 := hb5.free 1
  have hz3 := hO3.size
  have hcB : cb ≠ w.heap.size + 1 + 1 := by omega
  have hcB1 : cb ≠ w.heap.size + 1 := by omega
  have HBb := Lib.hid (fun (h : (numC most l).2.1 = 0) => show bb < w.heap.size by
    have hp : 0 < l.length := by
      rcases l with _ | ⟨x, l⟩
      · simp [numC, unvar, unv] at h
      · simp
    obtain ⟨o, -, hq, -⟩ := hl.2 hp
    exact hq)
  generalize hBB : w.heap.size = B at *
  have HBB := Lib.hid hBB
  clear hBB
  have HK1 : ∀ n, (w3.drewN n).cell? ⟨cb, 0, none⟩ = some (.slice a l.length cap) ∧ (w3.drewN n).cell? ⟨B, 1, none⟩ = some (.int .u64 (most : Int)) ∧ Only (· = B + 1 + 1) w3 (w3.drewN n) := fun n => ⟨c0, m1, (Only.refl _ _).drewN _⟩
  have HK2 : ∀ n v, ((w3.drewN n).setCell ⟨B + 1 + 1, 1, none⟩ v).cell? ⟨cb, 0, none⟩ = some (.slice a l.length cap) ∧ ((w3.drewN n).setCell ⟨B + 1 + 1, 1, none⟩ v).cell? ⟨B, 1, none⟩ = some (.int .u64 (most : Int)) ∧ Only (· = B + 1 + 1) w3 ((w3.drewN n).setCell ⟨B + 1 + 1, 1, none⟩ v) := fun n v => by
    have hS : Only (· = B + 1 + 1) w3 ((w3.drewN n).setCell ⟨B + 1 + 1, 1, none⟩ v) := Only.set1 ((Only.refl _ _).drewN _) _ _
    exact ⟨(hS.cell (p := ⟨cb, 0, none⟩) hbc.lt hcB).trans c0, (hS.cell (p := ⟨B, 1, none⟩) hb3.lt (by show ¬ B = B + 1 + 1; omega)).trans m1, hS⟩
  have HK1' := Lib.hid HK1
  have HK2' := Lib.hid HK2
  clear HK1 HK2
  go_upto_region 13 with (fail)
  go_region_held3 (fun w' => w'.cell? ⟨cb, 0, none⟩ = some (.slice a l.length cap) ∧ w'.cell? ⟨B, 1, none⟩ = some (.int .u64 (most : Int)) ∧ Only (· = B + 1 + 1) w3 w')
    (first | exact HK2'.out _ _ | exact HK1'.out _ | exact HK1'.out 1 | exact HK1'.out 0) (first
    | (go_at_call 105; ((with_reducible refine (HNm.out _ (by first | assumption | exact (Only.refl _ _).drew | exact Only.refl _ _ | exact (Only.refl _ _).drewN _)).mono ?_); rintro r w5 ⟨⟨a2, n2, c2, rfl, hrest⟩, q, rfl⟩)))
  have HERR := Lib.hid (fun h => numC_err (most := most) (b := l) h)
  generalize hNN : numC most l = N at *
  have HNN := Lib.hid hNN
  clear hNN
  obtain ⟨X, E, R⟩ := N
  simp only at hrest HERR HBb ⊢
  generalize hW4 : World.setCell _ _ _ = w4
  have hO4 : Only (· = B + 1 + 1) w3 w4 := by rw [← hW4]; exact Only.set1 ((Only.refl _ _).drewN _) _ _
  have hb5' : Blk w4 (B + 1 + 1) (pieceL X).toArray 94 := by
    rw [← hW4]
    exact (show Blk (w3.drewN _) _ _ _ from hb5).set 1 _
  have hb4' := hO4.blk hb4 (by omega)
  have hb3' := hO4.blk hb3 (by omega)
  have hbc' := hO4.blk hbc hcB
  have hOw4 : Only No w w4 := (hO3.of_no.trans hO4).mono (fun k hk e => by have := HBB.out; exfalso; omega)
  have k0 : w4.cell? ⟨cb, 0, none⟩ = some (.slice a l.length cap) := hbc'.cell 0 _ rfl
  have k1 : w4.cell? ⟨cb, 1, none⟩ = some (.int .i64 (e : Int)) := hbc'.cell 1 _ rfl
  have l0 := hbc'.free 0
  have l1 := hbc'.free 1
  have HOn := Lib.hid (fun (W : World) (p : Addr) (v : Value) (h : Only (· = cb) w W) (hp : B ≤ p.block) => h.setCell p v (fun hq => absurd hp (by have := HBB.out; show ¬ B ≤ p.block; omega)))
  have HB1 := Lib.hid (show B ≤ B + 1 by omega)
  clear hW4 c0 c1 m0 m1 d0 d1 x1 hbc HK1' HK2' HNm hb3 hb4 hb5 hO3
  by_cases hE : E = 0
  · have hne0 : ((E : Int) != 0) = false := by simp; omega
    have HEE := Lib.hid hE
    clear hE
    go_upto_region 34 with (fail)
    generalize hWs : w4.setCell _ _ = ws
    have hOcs : Only (· = cb) w4 ws := by rw [← hWs]; exact Only.set1 (Only.refl _ _) _ _
    have hbcs : Blk ws cb #[.slice a2 n2 c2, .int .i64 (e : Int)] 90 := by rw [← hWs]; exact hbc'.set 0 _
    have hb4s := hOcs.blk hb4' (by omega)
    have hb5s := hOcs.blk hb5' (by omega)
    have hOs : Only (· = cb) w ws := hOw4.of_no.trans hOcs
    obtain ⟨d0, d1, d2, d3, d4, d5, d6, d7, d8, d9, d10, d11, d12⟩ := piece_cells hb5s
    have HR := Lib.hid hrest
    clear hWs hrest k0 k1 l0 l1
    obtain ⟨e0, e1, e2, e3, e4, e5, e6, e7, e8, e9, e10, e11, e12⟩ := piece_cells hb4s
    obtain ⟨f0, f1, f2, f3, f4, f5, f6, f7, f8, f9, f10, f11, f12⟩ := piece_free hb4s
    go_wp2
    generalize hWF : World.setCell _ _ _ = WF
    have hOF : Only (· = cb) w WF := by
      rw [← hWF]
      iterate 13 (refine HOn.out _ _ _ ?_ HB1.out)
      exact hOs
    have hbF : Blk WF (B + 1) (pieceL X).toArray 94 := by
      rw [← hWF]
      exact piece_sets hb4s
    have hOG : Only (· = B + 1) ws WF := by
      rw [← hWF]
      iterate 13 (refine Only.set1 ?_ _ _)
      exact Only.refl _ _
    obtain ⟨g0, g1, g2, g3, g4, g5, g6, g7, g8, g9, g10, g11, g12⟩ := piece_cells hbF
    have hcF := hOG.blk hbcs hcB1
    clear hWF
    refine bodyPost_ret (v := pieceV X) (by simp [results, Tryd.results65, go_sem, pieceV, g0, g1, g2, g3, g4, g5, g6, g7, g8, g9, g10, g11, g12]) rfl ⟨by rw [HNN.out]; rfl, ⟨hne, ?_⟩, hOF⟩
    rw [HNN.out]
    obtain ⟨hn, hL⟩ := HR.out HEE.out
    have hbb := HBb.out HEE.out
    have hL4 := hL.only2 (show Only (· = B + 1 + 1) w3.drew w4 from ⟨hO4.os, hO4.tape, hO4.output, hO4.size, hO4.block⟩) (fun hq e => by have e' : bb = B + 1 + 1 := e; omega)
    refine ⟨a2, c2, ?_, ((hL4.only2 hOcs (fun hq e => hne e.symm)).only2 hOG (fun hq e => by have e' : bb = B + 1 := e; omega))⟩
    have e1' := HE.out
    have e2' := HEE.out
    have hcF' := hcF
    rw [hn, e1'] at hcF'
    rw [e2']
    exact hcF'
  · have hne0 : ((E : Int) != 0) = true := by simp; omega
    have hz' := HERR.out hE
    simp only [Prod.mk.injEq, true_and] at hz'
    obtain ⟨hX0, hR0⟩ := hz'
    subst hX0 hR0
    have p0 : w4.cell? ⟨B, 0, none⟩ = some (.int .i64 0) := (piece_cells hb3').1
    have HEE := Lib.hid hE
    clear hE
    go_upto_region 32 with (fail)
    generalize hWs : (w4.setCell _ _).setCell _ _ = ws
    have hOcs : Only (· = cb) w4 ws := by rw [← hWs]; exact Only.set1 (Only.set1 (Only.refl _ _) _ _) _ _
    have hbcs : Blk ws cb #[.slice none 0 0, .int .i64 (E : Int)] 90 := by rw [← hWs]; exact (hbc'.set 0 _).set 1 _
    have hb4s := hOcs.blk hb4' (by omega)
    have hb3s := hOcs.blk hb3' (by omega)
    have hOs : Only (· = cb) w ws := hOw4.of_no.trans hOcs
    have d0 : ws.cell? ⟨B, 0, none⟩ = some (.int .i64 0) := (piece_cells hb3s).1
    clear hWs hrest k0 k1 l0 l1 p0
    obtain ⟨e0, e1, e2, e3, e4, e5, e6, e7, e8, e9, e10, e11, e12⟩ := piece_cells hb4s
    obtain ⟨f0, f1, f2, f3, f4, f5, f6, f7, f8, f9, f10, f11, f12⟩ := piece_free hb4s
    go_wp2
    generalize hWF : World.setCell _ _ _ = WF
    have hOF : Only (· = cb) w WF := by
      rw [← hWF]
      iterate 13 (refine HOn.out _ _ _ ?_ HB1.out)
      exact hOs
    have hbF : Blk WF (B + 1) (pieceL 0).toArray 94 := by
      rw [← hWF]
      exact piece_sets hb4s
    have hOG : Only (· = B + 1) ws WF := by
      rw [← hWF]
      iterate 13 (refine Only.set1 ?_ _ _)
      exact Only.refl _ _
    obtain ⟨g0, g1, g2, g3, g4, g5, g6, g7, g8, g9, g10, g11, g12⟩ := piece_cells hbF
    have hcF := hOG.blk hbcs hcB1
    clear hWF
    refine bodyPost_ret (v := pieceV 0) (by simp [results, Tryd.results65, go_sem, pieceV, g0, g1, g2, g3, g4, g5, g6, g7, g8, g9, g10, g11, g12]) rfl ⟨by rw [HNN.out]; rfl, ⟨hne, ?_⟩, hOF⟩
    rw [HNN.out]
    exact ⟨none, 0, hcF, Nat.le_refl _, fun h => absurd h (by simp)⟩
theorem Read_c (cb bb e most : Nat) (l : List Nat) (w : World) (h : RCur w cb bb e l) (hby : ∀ c ∈ l, c < 256) (hlen : l.length ≤ 1000000) :
    Calls Tryd.prog 65 #[.pointer (some ⟨cb, 0, none⟩), pieceV most] w fun r w' => r = .returned (pieceV (numE e most l).1) ∧ RCur w' cb bb (numE e most l).2.1 (numE e most l).2.2 ∧ Only (· = cb) w w' := by
  by_cases he : e = 0
  · subst he
    exact Read_on cb bb most l w h hby hlen
  · have hn : numE e most l = (0, e, l) := by unfold numE; rw [if_neg he]
    rw [hn]
    exact (Read_off cb bb e most l w h (by omega)).mono fun r w' ⟨hr, hO⟩ => ⟨hr, h.no hO, hO.of_no⟩
end Go.Proofs.YtdcinifcpaldiaaDoor
