/- recon: what ByList finds, and its verdict. No statement is proved here. -/
import Derived.Test.YtdcinifcpaldiaaDoorRecon
import Derived.Laws.EntriesVeiled
namespace Go.Proofs.YtdcinifcpaldiaaDoor
open Go.RowKit

set_option maxRecDepth 100000 in
theorem find_c (v1 v2 : Value) (l m : List Nat) (tb : Nat) (w : World) (hp : Blk w tb #[v2] 22) (hR1 : Rd w v1 (u64s l)) (hR2 : Rd w v2 (u64s m)) (hl : l.length ≤ 1000000) (hm : m.length ≤ 1000000) (hx1 : ∀ x ∈ l, W64 x) (hx2 : ∀ x ∈ m, W64 x) :
    Calls Tryd.prog 49 #[v1, .pointer (some ⟨tb, 0, none⟩)] w fun e w' => ∃ u1 u2, e = .returned (.tuple #[u1, u2, .bool true]) ∧ w'.ownsRow w.heap.size 25 1 u1 (sOut l m).length (u64s (sOut l m)) ∧ w'.ownsRow w.heap.size 25 1 u2 (sOut m l).length (u64s (sOut m l)) ∧ Only No w w' := by
  have H := Lib.hid (Sides_c v1 v2 l m w hR1 hR2 hl hm hx1 hx2)
  obtain ⟨a1, c1, rfl, -⟩ := hR1.cases
  obtain ⟨a2, c2, rfl, -⟩ := hR2.cases
  simp only [u64s_len] at *
  have k0 := hp.cell 0 _ rfl
  clear hp hR1 hR2 hx1 hx2
  go_enter Tryd.func49, Tryd.ntmps49
  go_wp2_with (go_at_call 50; refine H.out.mono ?_; rintro e w1 ⟨u1, u2, rfl, r1, r2, hO⟩)
  go_ret3
  exact ⟨_, _, rfl, r1, r2, hO⟩
theorem sIn_nil (l m : List Nat) : sIn (sOut m l) l = [] := by
  apply List.eq_nil_iff_forall_not_mem.2
  intro x hx
  unfold sIn sOut isIn at hx
  simp [mem_rise] at hx
  exact hx.1.2 hx.2
theorem sOut_none (l m : List Nat) : sOut (sOut l m) l = [] := by
  apply List.eq_nil_iff_forall_not_mem.2
  intro x hx
  unfold sOut isIn at hx
  simp [mem_rise] at hx
  exact hx.2 hx.1.1
def findV (tb : Nat) : Value := .agg #[.func (.func 49) #[] #[.pointer (some ⟨tb, 0, none⟩)], .func (.func 48) #[] #[]]
set_option maxRecDepth 100000 in
set_option maxHeartbeats 1000000 in
theorem verdict_c (v1 v2 : Value) (l m : List Nat) (tb : Nat) (w : World) (hp : Blk w tb #[v2] 22) (hR1 : Rd w v1 (u64s l)) (hR2 : Rd w v2 (u64s m)) (hl : l.length ≤ 1000) (hm : m.length ≤ 1000) (hx1 : ∀ x ∈ l, W64 x) (hx2 : ∀ x ∈ m, W64 x) :
    Calls Tryd.prog 51 #[findV tb, v1] w fun e w' => ∃ u1 u2, e = .returned (.agg #[.bool true, u1, u2]) ∧ w'.ownsRow w.heap.size 25 1 u1 (sOut l m).length (u64s (sOut l m)) ∧ w'.ownsRow w.heap.size 25 1 u2 (sOut m l).length (u64s (sOut m l)) ∧ Only No w w' := by
  have hs1 := sOut_len26 l m
  have hs2 := sOut_len26 m l
  have H1 := Lib.hid (fun (W : World) (hO : Only No w W) => find_c v1 v2 l m tb W (hO.blk hp id) (hR1.no hO) (hR2.no hO) (by omega) (by omega) hx1 hx2)
  have H2 := Lib.hid (fun (u1 u2 : Value) (W : World) (hO : Only No w W) h1 h2 => owned_c v1 u1 u2 l (sOut l m) (sOut m l) W (hR1.no hO) h1 h2 (by omega) (by omega) (by omega) hx1 (sOut_sub hx1) (sOut_sub hx2) (sOut_none l m) (sIn_nil l m))
  obtain ⟨a1, c1, rfl, -⟩ := hR1.cases
  simp only [u64s_len] at *
  have ent := enters_of Tryd.func49 (by kernel_rfl) rfl
  have ent2 := enters_of Tryd.func48 (by kernel_rfl) rfl
  unfold findV
  clear hp hR1 hR2 hx1 hx2 hs1 hs2
  go_enter Tryd.func51, Tryd.ntmps51
  go_wp2_with (first
    | (refine (H1.out _ (((Only.refl No w).alloc _).alloc _)).mono ?_; rintro e w1 ⟨u1, u2, rfl, r1, r2, hO1⟩; obtain ⟨b1, d1, rfl, -⟩ := row_len r1; obtain ⟨b2, d2, rfl, -⟩ := row_len r2; have hA := hO1.blk (((Only.refl No _).alloc _).blk (Blk.new w _ _) id) id; have k1 := hA.cell 1 _ rfl; have hB := hO1.blk (Blk.new (w.alloc _) _ _) id; rw [show ∀ o, (w.alloc o).heap.size = w.heap.size + 1 from fun o => by simp] at hB; simp only [u64s_len] at *)
    | (refine (H2.out _ _ _ ((((Only.refl No w).alloc _).alloc _).trans hO1) (Rd.of_row r1) (Rd.of_row r2)).mono ?_; rintro e w2 ⟨rfl, hO2⟩; have hB2 := hO2.blk hB id; have q0 := hB2.cell 0 _ rfl; have q1 := hB2.cell 1 _ rfl; have q2 := hB2.cell 2 _ rfl; have f0 := hB2.free 0; have f1 := hB2.free 1; have f2 := hB2.free 2))
  generalize hW3 : ((w2.setCell _ _).setCell _ _).setCell _ _ = w3
  have hS : Blk w3 (w.heap.size + 1) #[.bool true, .slice b1 (sOut l m).length d1, .slice b2 (sOut m l).length d2] 39 := by rw [← hW3]; exact ((hB2.set 0 _).set 1 _).set 2 _
  have hO3 : Only (· = w.heap.size + 1) w2 w3 := by rw [← hW3]; exact (((Only.refl _ _).set1 _ _).set1 _ _).set1 _ _
  have hi : (Tryd.prog.info? 39).map (·.size) = some 3 := by kernel_rfl
  have hO : Only (· = w.heap.size + 1) w1 w3 := hO2.of_no.trans hO3
  (try simp only [Exit.inBlock, Exit.then])
  refine bodyPost_ret (results_cell_row rfl _ _ (w.heap.size + 1) _ _ _ _ rfl hS Tryd.underlying39 rfl hi) rfl ?_
  refine ⟨_, _, rfl, ?_, ?_, ?_⟩
  · exact row_lower (hO.row r1 (fun k hk e => by have := (World.ownsRow.lt r1 k hk).1; simp at this; have e' : k = w.heap.size + 1 := e; omega)) (by simp; omega)
  · exact row_lower (hO.row r2 (fun k hk e => by have := (World.ownsRow.lt r2 k hk).1; simp at this; have e' : k = w.heap.size + 1 := e; omega)) (by simp; omega)
  · exact ((((Only.refl No w).alloc _).alloc _).trans (hO1.trans hO2)).then hO3 (fun i hi e => by exfalso; have e' : i = w.heap.size + 1 := e; omega)
set_option maxRecDepth 100000 in
set_option maxHeartbeats 1000000 in
theorem ByList_c (v1 v2 : Value) (l m : List Nat) (w : World) (hR1 : Rd w v1 (u64s l)) (hR2 : Rd w v2 (u64s m)) (hl : l.length ≤ 1000) (hm : m.length ≤ 1000) (hx1 : ∀ x ∈ l, W64 x) (hx2 : ∀ x ∈ m, W64 x) :
    Calls Tryd.prog 20 #[v1, v2] w fun e w' => ∃ u1 u2, e = .returned (.agg #[.bool true, u1, u2]) ∧ Rd w' u1 (u64s (sOut l m)) ∧ Rd w' u2 (u64s (sOut m l)) ∧ Only No w w' := by
  have H := Lib.hid (fun (tb : Nat) (W : World) (hO : Only No w W) hp => verdict_c v1 v2 l m tb W hp (hR1.no hO) (hR2.no hO) hl hm hx1 hx2)
  unfold findV at H
  obtain ⟨a1, c1, rfl, -⟩ := hR1.cases
  obtain ⟨a2, c2, rfl, -⟩ := hR2.cases
  simp only [u64s_len] at *
  clear hR1 hR2 hx1 hx2
  go_enter Tryd.func20, Tryd.ntmps20
  go_wp2_with (go_at_call 51; refine (H.out w.heap.size _ ((((Only.refl No w).alloc _).alloc _).alloc _) ((((Only.refl No _).alloc _).alloc _).blk (Blk.new w _ _) id)).mono ?_; rintro e w1 ⟨u1, u2, rfl, r1, r2, hO1⟩; obtain ⟨b1, d1, rfl, -⟩ := row_len r1; obtain ⟨b2, d2, rfl, -⟩ := row_len r2; have hB2 := hO1.blk (((Only.refl No _).alloc _).blk (Blk.new (w.alloc _) _ _) id) id; rw [show ∀ o, (w.alloc o).heap.size = w.heap.size + 1 from fun o => by simp] at hB2; have q0 := hB2.cell 0 _ rfl; have q1 := hB2.cell 1 _ rfl; have q2 := hB2.cell 2 _ rfl; have f0 := hB2.free 0; have f1 := hB2.free 1; have f2 := hB2.free 2)
  generalize hW3 : ((w1.setCell _ _).setCell _ _).setCell _ _ = w3
  have hS : Blk w3 (w.heap.size + 1) #[.bool true, .slice b1 (sOut l m).length d1, .slice b2 (sOut m l).length d2] 39 := by rw [← hW3]; exact ((hB2.set 0 _).set 1 _).set 2 _
  have hO3 : Only (· = w.heap.size + 1) w1 w3 := by rw [← hW3]; exact (((Only.refl _ _).set1 _ _).set1 _ _).set1 _ _
  have hi : (Tryd.prog.info? 39).map (·.size) = some 3 := by kernel_rfl
  (try simp only [Exit.inBlock, Exit.then])
  refine bodyPost_ret (results_cell_row rfl _ _ (w.heap.size + 1) _ _ _ _ rfl hS Tryd.underlying39 rfl hi) rfl ?_
  refine ⟨_, _, rfl, ?_, ?_, ?_⟩
  · exact Rd.of_row (hO3.row r1 (fun k hk e => by have := (World.ownsRow.lt r1 k hk).1; simp at this; have e' : k = w.heap.size + 1 := e; omega))
  · exact Rd.of_row (hO3.row r2 (fun k hk e => by have := (World.ownsRow.lt r2 k hk).1; simp at this; have e' : k = w.heap.size + 1 := e; omega))
  · exact ((((Only.refl No w).alloc _).alloc _).alloc _ |>.trans hO1).then hO3 (fun i hi e => by exfalso; have e' : i = w.heap.size + 1 := e; omega)
end Go.Proofs.YtdcinifcpaldiaaDoor
