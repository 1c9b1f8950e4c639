/- recon: rising, owned, Settle, ByTable. No statement is proved here. -/
import Derived.Test.YtdcinifcpaldiaaDoorConcat
import Derived.Test.YtdcinifcpaldiaaDoorTells0
namespace Go.Proofs.YtdcinifcpaldiaaDoor
open Go.RowKit

theorem sOut_nil (l : List Nat) : sOut l [] = rise l := by unfold sOut isIn; simp
set_option maxRecDepth 100000 in
theorem rising_c (v : Value) (ss : List Value) (ls : List (List Nat)) (w : World) (hR : Rd w v ss) (hn : ss.length = ls.length) (hS : ∀ i (h : i < ls.length), Rd w (ss[i]'(by omega)) (u64s ls[i])) (hk : ls.length ≤ 1000000) (hl : (cat ls).length ≤ 1000000) (hx : ∀ x ∈ cat ls, W64 x) :
    Calls Tryd.prog 46 #[v] w fun e w' => ∃ u, e = .returned u ∧ Rd w' u (u64s (rise (cat ls))) ∧ Only No w w' := by
  have H1 := Lib.hid (Concat_c v ss ls w hR hn hS hk hl)
  have H2 := Lib.hid (fun (u : Value) (W : World) h => sift_c u (.slice none 0 0) (cat ls) [] W h (Rd.nil _ _ _) hl (by simp) hx (by simp))
  have E := Lib.hid (sOut_nil (cat ls))
  clear hR hn hS hk hl hx
  go_enter Tryd.func46, Tryd.ntmps46
  go_wp2_with (first
    | (go_at_call 85; refine H1.out.mono ?_; rintro e w1 ⟨u, rfl, r1, hO1⟩)
    | (go_at_call 47; refine (H2.out _ _ (Rd.of_row r1)).mono ?_; rintro e w2 ⟨u1, u2, rfl, hB, hO2⟩))
  go_ret
  refine ⟨_, rfl, ?_, hO1.trans hO2⟩
  have := Rd.of_row (hB.owns 1 _ rfl)
  rw [E.out] at this
  exact this
set_option maxRecDepth 100000 in
theorem owned_c (v1 v2 v3 : Value) (l p q : List Nat) (w : World) (hR1 : Rd w v1 (u64s l)) (hR2 : Rd w v2 (u64s p)) (hR3 : Rd w v3 (u64s q)) (hl : l.length ≤ 1000000) (hp : p.length ≤ 1000000) (hq : q.length ≤ 1000000) (hx : ∀ x ∈ l, W64 x) (hxp : ∀ x ∈ p, W64 x) (hxq : ∀ x ∈ q, W64 x) (h1 : sOut p l = []) (h2 : sIn q l = []) :
    Calls Tryd.prog 48 #[v1, v2, v3] w fun e w' => e = .returned (.bool true) ∧ Only No w w' := by
  have H1' := sift_c v2 v1 p l w hR2 hR1 hp hl hxp hx
  have H2' := fun (w1 : World) (hO : Only No w w1) => sift_c v3 v1 q l w1 (hR3.no hO) (hR1.no hO) hq hl hxq hx
  rw [h1] at H1'
  rw [h2] at H2'
  have H1 := Lib.hid H1'
  have H2 := Lib.hid H2'
  clear H1' H2' h1 h2 hR1 hR2 hR3 hl hp hq hx hxp hxq
  go_enter Tryd.func48, Tryd.ntmps48
  go_wp2_with (first
    | (go_at_call 47; ((with_reducible refine H1.out.mono ?_); rintro e w1 ⟨u1, u2, rfl, hB1, hO1⟩; obtain ⟨a2, c2, rfl⟩ := bun_is hB1 1 rfl))
    | (go_at_call 47; ((with_reducible refine (H2.out w1 hO1).mono ?_); rintro e w2 ⟨t1, t2, rfl, hB2, hO2⟩; obtain ⟨a1, c1, rfl⟩ := bun_is hB2 0 rfl)))
  go_ret
  exact ⟨rfl, hO1.trans hO2⟩
theorem rising2_c (v a b : Value) (l m : List Nat) (w : World) (hR : Rd w v [a, b]) (ha : Rd w a (u64s l)) (hb : Rd w b (u64s m)) (hl : l.length + m.length ≤ 1000000) (hx : ∀ x ∈ l, W64 x) (hy : ∀ x ∈ m, W64 x) :
    Calls Tryd.prog 46 #[v] w fun e w' => ∃ u, e = .returned u ∧ Rd w' u (u64s (rise (l ++ m))) ∧ Only No w w' := by
  have e1 : cat [l, m] = l ++ m := by simp [cat]
  have := rising_c v [a, b] [l, m] w hR rfl (by
    intro i h
    match i, h with
    | 0, _ => exact ha
    | 1, _ => exact hb) (by simp) (by rw [e1, List.length_append]; exact hl) (by
    intro x h
    rw [e1] at h
    rcases List.mem_append.1 h with h | h
    · exact hx x h
    · exact hy x h)
  rw [e1] at this
  exact this
theorem sOut_sub {l m : List Nat} (h : ∀ x ∈ l, W64 x) : ∀ x ∈ sOut l m, W64 x := by
  intro x hx
  unfold sOut at hx
  exact h x (mem_rise.1 (List.mem_filter.1 hx).1)
theorem sOut_len26 (l m : List Nat) : (sOut l m).length ≤ l.length := by
  unfold sOut
  exact Nat.le_trans (List.length_filter_le _ _) (rise_len l)
set_option maxRecDepth 100000 in
theorem Settle_c (v1 v2 v3 : Value) (l p q : List Nat) (w : World) (hR1 : Rd w v1 (u64s l)) (hR2 : Rd w v2 (u64s p)) (hR3 : Rd w v3 (u64s q)) (hl : l.length ≤ 100000) (hp : p.length ≤ 100000) (hq : q.length ≤ 100000) (hx : ∀ x ∈ l, W64 x) (hxp : ∀ x ∈ p, W64 x) (hxq : ∀ x ∈ q, W64 x) :
    Calls Tryd.prog 19 #[v1, .agg #[.bool true, v2, v3]] w fun e w' => ∃ u, e = .returned u ∧ Rd w' u (u64s (rise (sOut l p ++ q))) ∧ Only No w w' := by
  have hsl := sOut_len26 l p
  have H1 := Lib.hid (fun (W : World) (hO : Only No w W) => sift_c v1 v2 l p W (hR1.no hO) (hR2.no hO) (by omega) (by omega) hx hxp)
  have H2 := Lib.hid (fun (v a b : Value) (W : World) hR ha hb => rising2_c v a b (sOut l p) q W hR ha hb (by omega) (sOut_sub hx) hxq)
  have H3 := Lib.hid (fun (W : World) (hO : Only No w W) => hR3.no hO)
  obtain ⟨a1, c1, rfl, -⟩ := hR1.cases
  obtain ⟨a2, c2, rfl, -⟩ := hR2.cases
  obtain ⟨a3, c3, rfl, -⟩ := hR3.cases
  simp only [u64s_len] at *
  clear hR1 hR2 hR3 hx hxp hxq hsl
  go_enter Tryd.func19, Tryd.ntmps19
  go_wp2_with (first
    | (go_at_call 47; refine (H1.out _ ((Only.refl _ _).alloc _)).mono ?_; rintro e w1 ⟨u1, u2, rfl, hB1, hO1⟩; obtain ⟨b2, d2, rfl⟩ := bun_is hB1 1 rfl; have hO1' := ((Only.refl No w).alloc _).trans hO1; have hblk := hO1.blk (Blk.new w _ _) id; have k0 := hblk.cell 2 _ rfl; have r1 := Rd.of_row (hB1.owns 1 _ rfl))
    | (go_at_call 46; refine (H2.out _ _ _ _ (Rd.of_blk (xs := [_, _]) (cap := 2) (Blk.new w1 _ _) (Nat.le_refl _)) (r1.no ((Only.refl _ _).alloc _)) ((H3.out _ hO1').no ((Only.refl _ _).alloc _))).mono ?_; rintro e w2 ⟨u, rfl, r2, hO2⟩))
  go_ret
  exact ⟨_, rfl, r2, (hO1'.trans ((Only.refl No w1).alloc _)).trans hO2⟩
end Go.Proofs.YtdcinifcpaldiaaDoor
