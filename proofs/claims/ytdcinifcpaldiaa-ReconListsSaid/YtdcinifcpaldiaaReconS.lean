/- recon, the document's Settle. No statement is proved here. -/
import Derived.Test.YtdcinifcpaldiaaReconR
namespace Go.Proofs.Ytdcinifcpaldiaa
open Go.RowKit

set_option maxRecDepth 100000 in
set_option maxHeartbeats 1000000 in
theorem rSettle_c (v1 v2 v3 : Value) (l p q : List Nat) (w : World) (hR1 : Rd w v1 (u64s l)) (hR2 : Rd w v2 (u64s p)) (hR3 : Rd w v3 (u64s q)) (hl : l.length ≤ 1000) (hp : p.length ≤ 1000) (hq : q.length ≤ 1000) :
    Calls Try.prog 11 #[v1, .agg #[.bool true, v2, v3]] w fun e w' => ∃ u, e = .returned u ∧ Rd w' u (u64s (rise (sOut l p ++ q))) ∧ Only No w w' := by
  have hsl := sOut_len l p
  obtain ⟨i0, hinf, hz0, hz1, hz2⟩ := info_parts info_u64
  have H1 := Lib.hid (fun (W : World) (hO : Only No w W) => rSift_c v1 v2 l p W (hR1.no hO) (hR2.no hO) (by omega) (by omega))
  have H2 := Lib.hid (fun (v : Value) (W : World) h => Rise_c v (sOut l p ++ q) W h (by rw [List.length_append]; omega))
  have H3 := Lib.hid (fun (W : World) (hO : Only No w W) => hR3.no hO)
  obtain ⟨a1, c1, rfl, -⟩ := hR1.cases
  obtain ⟨a2, c2, rfl, -⟩ := hR2.cases
  obtain ⟨a3, c3, rfl, -⟩ := hR3.cases
  simp only [u64s_len] at *
  clear hR1 hR2 hR3
  go_enter Try.func11, Try.ntmps11
  go_wp2_with (go_at_call 25; refine (H1.out _ ((Only.refl _ _).alloc _)).mono ?_; rintro e w1 ⟨u1, u2, rfl, r1, r2, hO1⟩; obtain ⟨b1, d1, rfl, -⟩ := r1.cases; obtain ⟨b2, d2, rfl, -⟩ := r2.cases; have hblk := hO1.blk (Blk.new w _ _) id; simp only [u64s_len] at *; have k2 := hblk.cell 2 _ rfl)
  have hO1' := ((Only.refl No w).alloc _).trans hO1
  have hlt := hblk.lt
  have hBE := Bun.empty w1 w1.heap.size 32 1 (Nat.le_refl _)
  have hOE := (Only.refl No w1).alloc (.cells #[] 32)
  have hrE := Lib.hid (hBE.owns 0 _ rfl)
  have hR2 := Lib.hid (r2.sized.no hOE)
  have hR3 := Lib.hid (H3.out w1 hO1').sized
  have HO := Lib.hid (And.intro hO1' hOE)
  have hzE := hOE.size
  rw [u64s_len] at hR2 hR3
  have h1c : ∀ L : List Nat, ∀ u ∈ u64s L, u.oneCell' = true := by intro L u hu; obtain ⟨y, _, rfl⟩ := List.mem_map.1 hu; rfl
  have H1c := Lib.hid h1c
  clear hBE r1 r2 hblk hO1 hO1' hOE h1c H1 H3
  go_wp2_with fail
  go_region_held3 (fun w' => w'.cell? ⟨w.heap.size, 2, none⟩ = some (.slice a3 q.length c3))
    (first | assumption | go_keep) (first
    | (go_at_call 19; ((with_reducible refine (H2.out _ _ hRB).mono ?_); rintro e w4 ⟨u, rfl, r4, hO4⟩; have k4 := (hO4.cell (p := ⟨w.heap.size, 2, none⟩) (by have := hOB'.size; show w.heap.size < _; omega) id).trans kB))
    | (refine step_appendRd 1 (by rfl) (.tmp 19) (.tmp 20) 22 (by rfl) w1.heap.size 32 i0 (.int .u64 0) 1 8 Try.underlying22 hinf hz0 hz1 hz2 rfl (by decide) _ 0 [] (by rfl) hrE.out _ (sOut l p).length (u64s (sOut l p)) (by rfl) hR2.out (H1c.out _) (by unfold maxLen; omega) (by omega) hzE (by rfl) (sOut l p).length (Nat.zero_add _) (u64s (sOut l p)) rfl ?_; intro a4 c4 wA hrA hOA; have hOA' : Only (fun k => w1.heap.size ≤ k) w1 wA := (HO.out.2.of_no).trans (hOA.mono (fun k _ hk => by simp [Value.ownBlock] at hk; omega)); have kA := (hOA'.cell (p := ⟨w.heap.size, 2, none⟩) hlt (by show ¬ w1.heap.size ≤ w.heap.size; omega)).trans k2; have hzA := hOA'.size)
    | (refine step_appendRd 0 (by rfl) (.tmp 21) (.tmp 23) 22 (by rfl) w1.heap.size 32 i0 (.int .u64 0) 1 8 Try.underlying22 hinf hz0 hz1 hz2 rfl (by decide) _ _ _ (by rfl) hrA _ q.length (u64s q) (by rfl) (hR3.out.from hOA' (Nat.le_refl _)) (H1c.out _) (by unfold maxLen; omega) (by omega) hzA (by rfl) ((sOut l p).length + q.length) rfl (u64s (sOut l p ++ q)) (by simp [u64s]) ?_; intro a5 c5 wB hrB hOB; have hOB' : Only (fun k => w1.heap.size ≤ k) w1 wB := hOA'.trans (hOB.mono (fun k _ hk => (hrA.lt k hk).1)); have kB := (hOB'.cell (p := ⟨w.heap.size, 2, none⟩) hlt (by show ¬ w1.heap.size ≤ w.heap.size; omega)).trans k2; have hRB : Rd wB (.slice a5 ((sOut l p).length + q.length) c5) (u64s (sOut l p ++ q)) := Rd.of_row hrB)
    | fail)
  go_wp2
  go_ret
  exact ⟨_, rfl, r4, (HO.out.1.then hOB' (fun i hi hk => by have := HO.out.1.size; omega)).trans hO4⟩
end Go.Proofs.Ytdcinifcpaldiaa
