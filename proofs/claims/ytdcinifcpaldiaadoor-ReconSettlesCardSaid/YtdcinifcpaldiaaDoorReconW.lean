/- recon: the document's Same of verdicts, the chapter's example. No statement is proved here. -/
import Derived.Test.YtdcinifcpaldiaaDoorReconV
namespace Go.Proofs.YtdcinifcpaldiaaDoor
open Go.RowKit

/-- A block none of whose cells is a number is no block that a list of numbers lies in. -/
theorem Rd.off {w w' : World} {v : Value} {l : List Nat} {b : Nat} {cs : Array Value} {t : TypeId} (h : Rd w v (u64s l)) (hb : Blk w b cs t) (hn : ∀ (i : Nat) (x : Value), cs[i]? = some x → ∀ n : Int, x ≠ Value.int .u64 n) (hO : Only (· = b) w w') : Rd w' v (u64s l) := by
  obtain ⟨a, cap, rfl, hc, hf⟩ := h
  refine ⟨a, cap, rfl, hc, fun hp => ?_⟩
  obtain ⟨g, off, rfl, hg, hcell⟩ := hf hp
  have hl : 0 < l.length := by simpa using hp
  have hne : g ≠ b := by
    rintro rfl
    have h0 := hcell 0 _ (u64s_get hl)
    simp only [World.cell?] at h0
    unfold Blk at hb
    rw [hb] at h0
    have h0' : cs[off]? = some (.int .u64 (l[0] : Int)) := by simpa using h0
    exact hn _ _ h0' _ rfl
  refine ⟨g, off, rfl, Nat.lt_of_lt_of_le hg hO.size, fun j u hu => ?_⟩
  rw [hO.cell (p := ⟨g, off + j, none⟩) hg hne]
  exact hcell j u hu
theorem sameL_refl26 (l : List Nat) : sameL l l = true := decide_eq_true rfl
set_option maxRecDepth 100000 in
theorem rSameV_c (u1 u2 x1 x2 : Value) (p q : List Nat) (w : World) (h1 : Rd w u1 (u64s p)) (h2 : Rd w u2 (u64s q)) (g1 : Rd w x1 (u64s p)) (g2 : Rd w x2 (u64s q)) (hp : p.length ≤ 1000) (hq : q.length ≤ 1000) :
    Calls Tryd.prog 27 #[.agg #[.bool true, u1, u2], .agg #[.bool true, x1, x2]] w fun e w' => e = .returned (.bool true) ∧ Only No w w' := by
  have HA := Lib.hid (fun (W : World) (hO : Only No w W) => Same_c u1 x1 p p W (h1.no hO) (g1.no hO) (by omega) (by omega))
  have HB := Lib.hid (fun (W : World) (hO : Only No w W) => Same_c u2 x2 q q W (h2.no hO) (g2.no hO) (by omega) (by omega))
  simp only [sameL_refl26] at HA HB
  obtain ⟨a1, c1, rfl, -⟩ := h1.cases
  obtain ⟨a2, c2, rfl, -⟩ := h2.cases
  obtain ⟨a3, c3, rfl, -⟩ := g1.cases
  obtain ⟨a4, c4, rfl, -⟩ := g2.cases
  simp only [u64s_len] at *
  clear h1 h2 g1 g2
  go_enter Tryd.func27, Tryd.ntmps27
  go_wp2_with (first
    | (go_at_call 18; ((with_reducible refine (HA.out _ (((Only.refl No w).alloc _).alloc _)).mono ?_); rintro e w1 ⟨rfl, n1, rfl⟩))
    | (go_at_call 18; ((with_reducible refine (HB.out _ ((((Only.refl No w).alloc _).alloc _).drewN _)).mono ?_); rintro e w1 ⟨rfl, n2, rfl⟩)))
  go_ret
  exact ⟨rfl, (((Only.refl No w).alloc _).alloc _).drewN _⟩
set_option maxRecDepth 100000 in
set_option maxHeartbeats 1000000 in
theorem alive26_c (w : World) : Calls Tryd.prog 17 #[] w fun e w' => e = .returned (.bool true) ∧ Only No w w' := by
  have hs1 : sOut [1, 2] [2, 3] = [1] := by decide
  have hs2 : sOut [2, 3] [1, 2] = [3] := by decide
  have H1 := fun (v1 v2 : Value) (w : World) h1 h2 => ByList_c v1 v2 [1, 2] [2, 3] w h1 h2 (by simp) (by simp) (by simp [W64]) (by simp [W64])
  rw [hs1, hs2] at H1
  have H1' := Lib.hid H1
  clear H1 hs1 hs2
  go_enter Tryd.func17, Tryd.ntmps17
  have b1 : Blk ((w.alloc (.cells #[.int .u64 1, .int .u64 2] 25)).alloc (.cells #[.int .u64 2, .int .u64 3] 25)) w.heap.size (u64s [1, 2]).toArray 25 := (Blk.new w _ _).alloc _
  have b2 : Blk ((w.alloc (.cells #[.int .u64 1, .int .u64 2] 25)).alloc (.cells #[.int .u64 2, .int .u64 3] 25)) (w.heap.size + 1) (u64s [2, 3]).toArray 25 := by
    have := Blk.new (w.alloc (.cells #[.int .u64 1, .int .u64 2] 25)) #[.int .u64 2, .int .u64 3] 25
    simpa [u64s] using this
  have HS := Lib.hid (H1'.out _ _ _ (Rd.of_blk b1 (Nat.le_refl _)) (Rd.of_blk b2 (Nat.le_refl _)))
  clear b1 b2
  go_wp2_with (go_at_call 20; refine HS.out.mono ?_; rintro e w1 ⟨u1, u2, rfl, h1, h2, hO1⟩; obtain ⟨a1, c1, rfl, -⟩ := h1.cases; obtain ⟨a2, c2, rfl, -⟩ := h2.cases; obtain ⟨-, g1, o1, rfl, hl1, k1⟩ := h1.at (by decide); obtain ⟨-, g2, o2, rfl, hl2, k2⟩ := h2.at (by decide); have kk1 := k1 0 _ rfl; have kk2 := k2 0 _ rfl; rw [Nat.add_zero] at kk1 kk2; clear k1 k2)
  go_ret
  exact ⟨rfl, ((((Only.refl _ _).alloc _).alloc _).trans hO1).alloc _⟩
end Go.Proofs.YtdcinifcpaldiaaDoor
