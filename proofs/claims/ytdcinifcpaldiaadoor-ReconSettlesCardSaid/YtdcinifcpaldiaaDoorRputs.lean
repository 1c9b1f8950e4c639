/- One region of the document's Put, walked by itself. The document's Put: a number put into a table of the call's own. No statement is proved here. -/
import Derived.Test.YtdcinifcpaldiaaDoorPlc

namespace Go.Proofs.YtdcinifcpaldiaaDoor
open Go.RowKit

/-- The region of that number in a text. -/
def regAt : Code → Nat → Option Code
  | .region i ops d, k => if i = k then some (.region i ops d) else none
  | .seq a b, k => match regAt a k with | some c => some c | none => regAt b k
  | .cond _ a b, k => match regAt a k with | some c => some c | none => regAt b k
  | .block _ a, k => regAt a k
  | .loop a, k => regAt a k
  | .scope a, k => regAt a k
  | .rangeFunc _ _ a b, k => match regAt a k with | some c => some c | none => regAt b k
  | _, _ => none
set_option maxRecDepth 100000 in
set_option maxHeartbeats 4000000 in
theorem rput_region (c : Code) (hc : Tryd.f54.body.bind (regAt · 5) = some c) (W3 : World) (g hp hcb n cap j p p0 p1 p2 : Nat) (N s r0 : Int) (a b x ck r1 r2 : Nat) (u15 u16 u23 u24 u25 u26 u27 u28 u29 u30 u31 u32 u33 u34 u35 u36 u37 u38 u39 u40 u41 : Value) (Q : Exit → Act → World → Prop)
    (HX1 : Hid (∀ w, Calls Tryd.prog 71 #[.int .u64 (a : Int), .int .u64 (x : Int)] w fun e w' => e = .returned (.int .u64 (r1 : Int)) ∧ w = w'))
    (HX2 : Hid (∀ w, Calls Tryd.prog 71 #[.int .u64 (b : Int), .int .u64 (ck : Int)] w fun e w' => e = .returned (.int .u64 (r2 : Int)) ∧ w = w'))
    (HC : Hid (∀ w, Calls Tryd.prog 88 #[.int .u64 (x : Int)] w fun e w' => e = .returned (.int .u64 (ck : Int)) ∧ w = w'))
    (hN : IntKind.i32.wrap (N + s) = r0) (hj0 : (0 : Int) ≤ (j : Int)) (hj3 : (j : Int) < 3) (hp0 : (0 : Int) ≤ (p : Int)) (hpn : (p : Int) < (n : Int))
    (cq : W3.cell? ⟨hp, j, none⟩ = some (.int .i64 (p : Int))) (d0 : W3.cell? ⟨hcb, 0, none⟩ = some (.int .i32 N)) (d1 : W3.cell? ⟨hcb, 1, none⟩ = some (.int .u64 (a : Int))) (d2 : W3.cell? ⟨hcb, 2, none⟩ = some (.int .u64 (b : Int)))
    (c0 : W3.cell? ⟨g, p * 3, none⟩ = some (.int .i32 N)) (c1 : W3.cell? ⟨g, p * 3 + 1, none⟩ = some (.int .u64 (a : Int))) (c2 : W3.cell? ⟨g, p * 3 + 2, none⟩ = some (.int .u64 (b : Int)))
    (f0 : W3.frozen? ⟨g, p * 3, none⟩ = false) (f1 : W3.frozen? ⟨g, p * 3 + 1, none⟩ = false) (f2 : W3.frozen? ⟨g, p * 3 + 2, none⟩ = false) (hgl : g < W3.heap.size) (hg1 : g ≠ hp) (hg2 : g ≠ hcb)
    (hQ : Q .normal { tmps := #[Value.slice (some ⟨g, 0, none⟩) n cap, Value.int .u64 (x : Int), Value.int .i32 s, undef, undef, undef, Value.pointer (some ⟨hp, 0, none⟩), Value.int .i64 (j : Int), Value.pointer (some ⟨hcb, 0, none⟩), Value.slice (some ⟨g, 0, none⟩) n cap, Value.int .i64 (n : Int), Value.int .u64 (x : Int), Value.agg #[Value.int .i64 (p0 : Int), Value.int .i64 (p1 : Int), Value.int .i64 (p2 : Int)], Value.int .i64 (j : Int), Value.bool true, u15, u16, Value.slice (some ⟨g, 0, none⟩) n cap, Value.int .i64 (j : Int), Value.pointer (some ⟨hp, j, none⟩), Value.int .i64 (p : Int), Value.pointer (some ⟨g, p * 3, none⟩), Value.agg #[Value.int .i32 N, Value.int .u64 (a : Int), Value.int .u64 (b : Int)], Value.slice (some ⟨g, 0, none⟩) n cap, Value.int .i64 (j : Int), Value.pointer (some ⟨hp, j, none⟩), Value.int .i64 (p : Int), Value.pointer (some ⟨hcb, 0, none⟩), Value.int .i32 N, Value.int .i32 s, Value.int .i32 r0, Value.pointer (some ⟨hcb, 1, none⟩), Value.int .u64 (a : Int), Value.int .u64 (x : Int), Value.int .u64 (r1 : Int), Value.pointer (some ⟨hcb, 2, none⟩), Value.int .u64 (b : Int), Value.int .u64 (x : Int), Value.int .u64 (ck : Int), Value.int .u64 (r2 : Int), Value.agg #[Value.int .i32 r0, Value.int .u64 (r1 : Int), Value.int .u64 (r2 : Int)], Value.pointer (some ⟨g, p * 3, none⟩)], defers := [] } (((W3.setCell ⟨g, p * 3, none⟩ (.int .i32 r0)).setCell ⟨g, p * 3 + 1, none⟩ (.int .u64 (r1 : Int))).setCell ⟨g, p * 3 + 2, none⟩ (.int .u64 (r2 : Int))).drew) :
    c.wp Tryd.prog Q { tmps := #[Value.slice (some ⟨g, 0, none⟩) n cap, Value.int .u64 (x : Int), Value.int .i32 s, undef, undef, undef, Value.pointer (some ⟨hp, 0, none⟩), Value.int .i64 (j : Int), Value.pointer (some ⟨hcb, 0, none⟩), Value.slice (some ⟨g, 0, none⟩) n cap, Value.int .i64 (n : Int), Value.int .u64 (x : Int), Value.agg #[Value.int .i64 (p0 : Int), Value.int .i64 (p1 : Int), Value.int .i64 (p2 : Int)], Value.int .i64 (j : Int), Value.bool true, u15, u16, Value.slice (some ⟨g, 0, none⟩) n cap, Value.int .i64 (j : Int), Value.pointer (some ⟨hp, j, none⟩), Value.int .i64 (p : Int), Value.pointer (some ⟨g, p * 3, none⟩), Value.agg #[Value.int .i32 N, Value.int .u64 (a : Int), Value.int .u64 (b : Int)], u23, u24, u25, u26, u27, u28, u29, u30, u31, u32, u33, u34, u35, u36, u37, u38, u39, u40, u41], defers := [] } W3 := by
  simp [Tryd.f54, regAt] at hc
  subst hc
  have hQ := Lib.hid hQ
  go_region_held3 (fun w' => w'.cell? ⟨hp, j, none⟩ = some (.int .i64 (p : Int)) ∧ w'.cell? ⟨hcb, 0, none⟩ = some (.int .i32 N) ∧ w'.cell? ⟨hcb, 1, none⟩ = some (.int .u64 (a : Int)) ∧ w'.cell? ⟨hcb, 2, none⟩ = some (.int .u64 (b : Int)))
    (first | exact ⟨cq, d0, d1, d2⟩ | assumption | (go_keep)) (first
    | (go_at_call 71; ((with_reducible refine (HX1.out _).mono ?_); rintro e w' ⟨rfl, rfl⟩))
    | (go_at_call 71; ((with_reducible refine (HX2.out _).mono ?_); rintro e w' ⟨rfl, rfl⟩))
    | (go_at_call 88; refine (HC.out _).mono ?_; rintro e w' ⟨rfl, rfl⟩))
  exact hQ.out
end Go.Proofs.YtdcinifcpaldiaaDoor

namespace Go.Proofs.YtdcinifcpaldiaaDoor
open Go.RowKit

theorem fl_setC {L : List Cell} {i x : Nat} {s : Int} (hi : i < L.length) :
    (((fl encC L).set (i * 3) (.int .i32 (w32 ((L.getD i zC).1 + s)))).set (i * 3 + 1) (.int .u64 (((L.getD i zC).2.1 ^^^ x : Nat) : Int))).set (i * 3 + 2) (.int .u64 (((L.getD i zC).2.2 ^^^ chk x : Nat) : Int)) = fl encC (modC L i x s) := fl_modC hi
/-- What a round of the loop has at hand. -/
theorem row_three {w : World} {base g n cap i : Nat} {L : List Cell} (hv : w.ownsRow base 81 3 (.slice (some ⟨g, 0, none⟩) n cap) L.length (fl encC L)) (hi : i < L.length) :
    w.cell? ⟨g, i * 3, none⟩ = some (.int .i32 (L.getD i zC).1) ∧ w.cell? ⟨g, i * 3 + 1, none⟩ = some (.int .u64 ((L.getD i zC).2.1 : Int)) ∧ w.cell? ⟨g, i * 3 + 2, none⟩ = some (.int .u64 ((L.getD i zC).2.2 : Int)) ∧
      w.frozen? ⟨g, i * 3, none⟩ = false ∧ w.frozen? ⟨g, i * 3 + 1, none⟩ = false ∧ w.frozen? ⟨g, i * 3 + 2, none⟩ = false ∧ g < w.heap.size := by
  have e : L.getD i zC = L[i] := by simp [List.getD_eq_getElem?_getD, hi]
  have k0 : (fl encC L)[i * 3 + 0]? = _ := fl_get encC_len hi (by omega)
  have k1 : (fl encC L)[i * 3 + 1]? = _ := fl_get encC_len hi (by omega)
  have k2 : (fl encC L)[i * 3 + 2]? = _ := fl_get encC_len hi (by omega)
  rw [e]
  obtain ⟨c0, f0, -, hg⟩ := ownsRow_cell hv (i * 3) (.int .i32 L[i].1) (by rw [Nat.add_zero] at k0; exact k0)
  obtain ⟨c1, f1, -, -⟩ := ownsRow_cell hv (i * 3 + 1) (.int .u64 (L[i].2.1 : Int)) k1
  obtain ⟨c2, f2, -, -⟩ := ownsRow_cell hv (i * 3 + 2) (.int .u64 (L[i].2.2 : Int)) k2
  exact ⟨c0, c1, c2, f0, f1, f2, hg⟩
/-- The row behind a round. -/
theorem row_mod {w : World} {base g n cap i x : Nat} {s : Int} {L : List Cell} (hv : w.ownsRow base 81 3 (.slice (some ⟨g, 0, none⟩) n cap) L.length (fl encC L)) (hi : i < L.length) :
    (((w.setCell ⟨g, i * 3, none⟩ (.int .i32 (w32 ((L.getD i zC).1 + s)))).setCell ⟨g, i * 3 + 1, none⟩ (.int .u64 (((L.getD i zC).2.1 ^^^ x : Nat) : Int))).setCell ⟨g, i * 3 + 2, none⟩ (.int .u64 (((L.getD i zC).2.2 ^^^ chk x : Nat) : Int))).ownsRow base 81 3 (.slice (some ⟨g, 0, none⟩) n cap) L.length (fl encC (modC L i x s)) := by
  have hll := fl_len encC_len L
  rw [← fl_modC hi]
  exact ownsRow_set (ownsRow_set (ownsRow_set hv _ _ (by omega)) _ _ (by rw [List.length_set]; omega)) _ _ (by rw [List.length_set, List.length_set]; omega)
/-- The table behind j of the three steps. -/
def stepsC (k x : Nat) (s : Int) (L : List Cell) : Nat → List Cell
  | 0 => L
  | j + 1 => modC (stepsC k x s L j) (place k x j) x s
theorem stepsC_len (k x : Nat) (s : Int) (L : List Cell) : ∀ j, (stepsC k x s L j).length = L.length
  | 0 => rfl
  | j + 1 => by rw [stepsC, modC_len, stepsC_len k x s L j]
theorem stepsC_ok (k : Nat) {x : Nat} (s : Int) {L : List Cell} (hx : W64 x) (h : OkL L) : ∀ j, OkL (stepsC k x s L j)
  | 0 => h
  | j + 1 => modC_ok hx (stepsC_ok k s hx h j)
set_option maxRecDepth 100000 in
set_option maxHeartbeats 8000000 in
theorem rput_c (base : Nat) (v : Value) (k x : Nat) (s : Int) (L : List Cell) (w : World) (hv : w.ownsRow base 81 3 v L.length (fl encC L)) (hL : L.length = 3 * k) (hk : 1 ≤ k) (hk2 : k ≤ 1365) (hok : OkL L) (hx : W64 x) :
    Calls Tryd.prog 54 #[v, .int .u64 (x : Int), .int .i32 s] w fun e w' => e = .returned (.tuple #[]) ∧ w'.ownsRow base 81 3 v L.length (fl encC (putC L x s)) ∧ Only (fun k => v.ownBlock = some k) w w' := by
  obtain ⟨g, cap, rfl, -, hgl, -⟩ := row_cell hv (by omega)
  have hP := rplaces_c k x w hk hk2 hx
  rw [← hL] at hP
  have hput : putC L x s = stepsC k x s L 3 := by unfold putC; rw [show L.length / 3 = k by omega]; rfl
  rw [hput]
  have e0 : placesV k x = .agg #[.int .i64 (place k x 0 : Nat), .int .i64 (place k x 1 : Nat), .int .i64 (place k x 2 : Nat)] := rfl
  rw [e0] at hP
  have hpl : ∀ j, j < 3 → place k x j < L.length := fun j hj => by have := place_lt hk x j; have : k * j ≤ k * 2 := Nat.mul_le_mul_left k (by omega); omega
  have hsl := stepsC_len k x s L
  have hso := stepsC_ok k s hx hok
  have hn : L.length ≤ 4095 := by omega
  obtain ⟨n, hnL⟩ : ∃ n : Nat, n = L.length := ⟨_, rfl⟩
  rw [← hnL] at hpl hn hsl
  have HP := Lib.hid hP
  have HL := Lib.hid (And.intro hpl (And.intro hsl hso))
  rw [← hnL] at hv HP ⊢
  have HC := Lib.hid (fun w => rCheck_c x w hx)
  have hS0 : stepsC k x s L 0 = L := rfl
  have hSs : ∀ j, stepsC k x s L (j + 1) = modC (stepsC k x s L j) (place k x j) x s := fun _ => rfl
  rw [← hS0] at hv
  have HS := Lib.hid hSs
  clear hL hput e0 hP hok hnL hpl hsl hso hS0 hSs
  have hckw := w64_chk x
  generalize hck : chk x = ck at *
  have HCK := Lib.hid (And.intro hck (And.intro hx hckw))
  clear hck hx hckw
  generalize hSe : stepsC k x s L = Sf at *
  generalize hpe : place k x = pf at *
  clear hSe hpe
  go_enter Tryd.func54, Tryd.ntmps54
  go_wp2_with (go_at_call 87; refine HP.out.mono ?_; rintro e w1 ⟨rfl, hO1⟩)
  have hv1 := hO1.row hv (fun _ _ h => h)
  generalize hW2 : w1.alloc (.cells #[.int .i64 (pf 0 : Int), .int .i64 (pf 1 : Int), .int .i64 (pf 2 : Int)] 114) = W2
  have hO2 : Only No w W2 := by rw [← hW2]; exact hO1.alloc _
  have hbp : Blk W2 w1.heap.size #[.int .i64 (pf 0 : Int), .int .i64 (pf 1 : Int), .int .i64 (pf 2 : Int)] 114 := by rw [← hW2]; exact Blk.new _ _ _
  have hv2 : W2.ownsRow base 81 3 (.slice (some ⟨g, 0, none⟩) n cap) n (fl encC (Sf 0)) := by rw [← hW2]; exact ((Only.refl No w1).alloc _).row hv1 (fun _ _ h => h)
  have hne : w1.heap.size ≠ g := by have := hO1.size; omega
  have hO2' : Only (· = g) w W2 := hO2.of_no
  have hne2 : g ≠ w1.heap.size := Ne.symm hne
  clear hW2 hv hv1 HP hO2
  go_loopw [7, 8] (fun v7 _ wr => ∃ j : Nat, j ≤ 3 ∧ v7 = .int .i64 j ∧ Only (· = g) w wr ∧ Blk wr w1.heap.size #[.int .i64 (pf 0 : Int), .int .i64 (pf 1 : Int), .int .i64 (pf 2 : Int)] 114 ∧ wr.ownsRow base 81 3 (.slice (some ⟨g, 0, none⟩) n cap) n (fl encC (Sf j))) (fun v7 _ _ => 3 - (intOf v7).toNat)
  case atStart => exact ⟨0, by omega, rfl, hO2', hbp, hv2⟩
  case round =>
    obtain ⟨j, hj, rfl, hO, hbp, hr⟩ := hrel
    have hpl := hbp.lt
    by_cases hlt : j < 3
    · have cpj : ∀ W : World, Blk W w1.heap.size #[.int .i64 (pf 0 : Int), .int .i64 (pf 1 : Int), .int .i64 (pf 2 : Int)] 114 → W.cell? ⟨w1.heap.size, j, none⟩ = some (.int .i64 (pf j : Int)) := fun W h => by
        refine h.cell j _ ?_
        rcases (show j = 0 ∨ j = 1 ∨ j = 2 by omega) with rfl | rfl | rfl <;> rfl
      have cp := cpj wr hbp
      have hq := HL.out.1 j hlt
      have hr' := hr
      rw [← HL.out.2.1 j] at hr'
      have hq' : pf j < (Sf j).length := by rw [HL.out.2.1 j]; exact hq
      obtain ⟨c0, c1, c2, f0, f1, f2, hgl2⟩ := row_three hr' hq'
      have HR := Lib.hid (fun (W : World) (h : W.ownsRow base 81 3 (.slice (some ⟨g, 0, none⟩) (Sf j).length cap) (Sf j).length (fl encC (Sf j))) => row_mod (x := x) (s := s) h hq')
      have hok := (HL.out.2.2 j).get (pf j)
      have H3 := Lib.hid (fun (W : World) (h : W.ownsRow base 81 3 (.slice (some ⟨g, 0, none⟩) (Sf j).length cap) (Sf j).length (fl encC (Sf j))) => row_three h hq')
      generalize (Sf j).getD (pf j) zC = c at *
      obtain ⟨N, a, b⟩ := c
      have hN : IntKind.i32.wrap (N + s) = w32 (N + s) := w32_wrap _
      have HX1 := Lib.hid (fun w => Xor_c a x w hok.2.1 HCK.out.2.1)
      have HX2 := Lib.hid (fun w => Xor_c b ck w hok.2.2 HCK.out.2.2)
      have hRR := HR.out
      rw [HCK.out.1] at hRR
      have HR := Lib.hid hRR
      clear hRR
      generalize w32 (N + s) = r0 at *
      generalize a ^^^ x = r1 at *
      generalize b ^^^ ck = r2 at *
      have HRow := Lib.hid hr
      have hgr : g ≠ wr.heap.size := by omega
      have hj0 : (0 : Int) ≤ (j : Int) := by omega
      have hj3 : (j : Int) < 3 := by omega
      have hp0 : (0 : Int) ≤ (pf j : Int) := by omega
      have hpn : (pf j : Int) < (n : Int) := by omega
      clear hr hr' hok hq hq'
      go_wp2_with fail
      generalize hW3 : wr.alloc (.cells #[.int .i32 N, .int .u64 (a : Int), .int .u64 (b : Int)] 81) = W3
      have hA : Only No wr W3 := by rw [← hW3]; exact (Only.refl _ _).alloc _
      have hbc : Blk W3 wr.heap.size #[.int .i32 N, .int .u64 (a : Int), .int .u64 (b : Int)] 81 := by rw [← hW3]; exact Blk.new _ _ _
      have d0 : W3.cell? ⟨wr.heap.size, 0, none⟩ = some (.int .i32 N) := hbc.cell 0 _ rfl
      have d1 : W3.cell? ⟨wr.heap.size, 1, none⟩ = some (.int .u64 (a : Int)) := hbc.cell 1 _ rfl
      have d2 : W3.cell? ⟨wr.heap.size, 2, none⟩ = some (.int .u64 (b : Int)) := hbc.cell 2 _ rfl
      have cq := cpj W3 (hA.blk hbp id)
      have HB3 := Lib.hid (hA.blk hbp id)
      clear c0 c1 c2 f0 f1 f2 cp hW3 cpj hbp
      have hr5 := hA.row HRow.out (fun _ _ h => h)
      rw [← HL.out.2.1 j] at hr5
      obtain ⟨c0, c1, c2, f0, f1, f2, hgl3⟩ := H3.out _ hr5
      have HR4 := HR.out _ hr5
      have HO4 := (((hO.trans hA.of_no).set1' (pf j * 3) (.int .i32 r0)).set1' (pf j * 3 + 1) (.int .u64 (r1 : Int))).set1' (pf j * 3 + 2) (.int .u64 (r2 : Int))
      have HB4 := ((HB3.out.other hne (a := ⟨g, pf j * 3, none⟩) (.int .i32 r0)).other (a := ⟨g, pf j * 3 + 1, none⟩) hne (.int .u64 (r1 : Int))).other (a := ⟨g, pf j * 3 + 2, none⟩) hne (.int .u64 (r2 : Int))
      obtain ⟨WF, hWF⟩ : ∃ WF, WF = ((W3.setCell ⟨g, pf j * 3, none⟩ (.int .i32 r0)).setCell ⟨g, pf j * 3 + 1, none⟩ (.int .u64 (r1 : Int))).setCell ⟨g, pf j * 3 + 2, none⟩ (.int .u64 (r2 : Int)) := ⟨_, rfl⟩
      rw [← hWF] at HO4 HB4 HR4
      have HFin := Lib.hid (And.intro HO4.drew (And.intro (show Blk WF.drew w1.heap.size #[.int .i64 (pf 0 : Int), .int .i64 (pf 1 : Int), .int .i64 (pf 2 : Int)] 114 from HB4) ((Only.refl (· = g) WF).drew.row' HR4)))
      rw [hWF] at HFin
      clear hWF HO4 HB4 HR4 hr5 H3 HR
      refine rput_region _ rfl W3 g w1.heap.size wr.heap.size n cap j (pf j) (pf 0) (pf 1) (pf 2) N s r0 a b x ck r1 r2 _ _ _ _ _ _ _ _ _ _ _ _ _ _ _ _ _ _ _ _ _ _ HX1 HX2 HC hN hj0 hj3 hp0 hpn cq d0 d1 d2 c0 c1 c2 f0 f1 f2 hgl3 (Ne.symm hne) hgr ?_
      go_wp2_with fail
      go_roundw
      case rel =>
        refine ⟨j + 1, by omega, by go_num, HFin.out.1, HFin.out.2.1, ?_⟩
        rw [HS.out j, ← HL.out.2.1 j]
        exact HFin.out.2.2
      case measure => simp [intOf]; omega
    · have hj3 : j = 3 := by omega
      subst hj3
      go_wp2
      go_end0
      exact ⟨rfl, hr, hO.mono (fun i _ e => by rw [e]; rfl)⟩
end Go.Proofs.YtdcinifcpaldiaaDoor
