/- recon: owned, ByCells and its verdict, Need. No statement is proved here. -/
import Derived.Test.YtdcinifcpaldiaaDoorReconW
import Derived.Test.YtdcinifcpaldiaaDoorReconP
namespace Go.Proofs.YtdcinifcpaldiaaDoor
open Go.RowKit

theorem sIn_len26 (l m : List Nat) : (sIn l m).length ≤ l.length := Nat.le_trans (List.length_filter_le _ _) (rise_len l)
def ownB (o p l : List Nat) : Bool := decide ((sOut o l).length + (sIn p l).length = 0)
set_option maxRecDepth 100000 in
theorem owned_g (v1 v2 v3 : Value) (l p q : List Nat) (w : World) (hR1 : Rd w v1 (u64s l)) (hR2 : Rd w v2 (u64s p)) (hR3 : Rd w v3 (u64s q)) (hl : l.length ≤ 10000) (hp : p.length ≤ 10000) (hq : q.length ≤ 10000) (hx : ∀ x ∈ l, W64 x) (hxp : ∀ x ∈ p, W64 x) (hxq : ∀ x ∈ q, W64 x) :
    Calls Tryd.prog 48 #[v1, v2, v3] w fun e w' => e = .returned (.bool (ownB p q l)) ∧ Only No w w' := by
  have hs1 := sOut_len26 p l
  have hs2 := sIn_len26 q l
  have H1 := Lib.hid (sift_c v2 v1 p l w hR2 hR1 (by omega) (by omega) hxp hx)
  have H2 := Lib.hid (fun (w1 : World) (hO : Only No w w1) => sift_c v3 v1 q l w1 (hR3.no hO) (hR1.no hO) (by omega) (by omega) hxq hx)
  have hb : ((((sOut p l).length : Nat) : Int) + (((sIn q l).length : Nat) : Int) == 0) = ownB p q l := by
    unfold ownB
    by_cases h : (sOut p l).length + (sIn q l).length = 0
    · rw [decide_eq_true h]; simp; omega
    · rw [decide_eq_false h]; simp; omega
  generalize ownB p q l = r at *
  clear hR1 hR2 hR3 hx hxp hxq
  go_enter Tryd.func48, Tryd.ntmps48
  go_wp2_with (first
    | (go_at_call 47; ((with_reducible refine H1.out.mono ?_); rintro e w1 ⟨u1, u2, rfl, hB1, hO1⟩; obtain ⟨a2, c2, rfl⟩ := bun_is hB1 1 rfl))
    | (go_at_call 47; ((with_reducible refine (H2.out w1 hO1).mono ?_); rintro e w2 ⟨t1, t2, rfl, hB2, hO2⟩; obtain ⟨a1, c1, rfl⟩ := bun_is hB2 0 rfl)))
  go_ret
  exact ⟨rfl, hO1.trans hO2⟩
set_option maxRecDepth 100000 in
theorem findC_no (v1 v2 : Value) (l : List Nat) (T : List Cell) (tb : Nat) (w : World) (hp : Blk w tb #[v2] 42) (hR1 : Rd w v1 (u64s l)) (hR2 : RdN 3 w v2 T.length (fl encC T)) (hm : ¬ May (T.length : Int)) :
    Calls Tryd.prog 55 #[v1, .pointer (some ⟨tb, 0, none⟩)] w fun e w' => e = .returned (.tuple #[.slice none 0 0, .slice none 0 0, .bool false]) ∧ Only No w w' := by
  obtain ⟨a2, c2, rfl, -⟩ := hR2.cases
  have H := Lib.hid (fun (W : World) => Make_no (T.length : Int) v1 W hm)
  have k0 := hp.cell 0 _ rfl
  obtain ⟨a1, c1, rfl, -⟩ := hR1.cases
  simp only [u64s_len] at *
  clear hp hR1 hR2 hm
  go_enter Tryd.func55, Tryd.ntmps55
  go_wp2_with (go_at_call 43; refine (H.out _).mono ?_; rintro e w1 ⟨rfl, rfl⟩)
  go_ret3
  exact ⟨rfl, Only.refl _ _⟩
set_option maxRecDepth 100000 in
theorem findC_yes (v1 v2 : Value) (l : List Nat) (T : List Cell) (k tb : Nat) (w : World) (hp : Blk w tb #[v2] 42) (hR1 : Rd w v1 (u64s l)) (hR2 : RdN 3 w v2 T.length (fl encC T)) (hT : T.length = 3 * k) (hk : 1 ≤ k) (hk2 : k ≤ 1365) (hok : OkL T) (hl : l.length ≤ 1000) (hx : ∀ x ∈ l, W64 x) :
    Calls Tryd.prog 55 #[v1, .pointer (some ⟨tb, 0, none⟩)] w fun e w' => ∃ u1 u2, e = .returned (.tuple #[u1, u2, .bool (peelF k (lessC (makeC (3 * k) l) T)).1]) ∧ Rd w' u1 (u64s (peelF k (lessC (makeC (3 * k) l) T)).2.1) ∧ Rd w' u2 (u64s (peelF k (lessC (makeC (3 * k) l) T)).2.2) ∧ Only No w w' := by
  have HM := Make_c k v1 l w hk hk2 hR1 (by omega) hx
  have hTn := hT.symm
  rw [hTn] at HM ⊢
  have hAB : (makeC T.length l).length = T.length := makeC_len _ _
  have hokA := makeC_ok (m := T.length) hx
  have HM' := Lib.hid HM
  have HL := Lib.hid (fun (u v : Value) (W : World) g1 g2 => Less_c u v (makeC T.length l) T W g1 g2 (by rw [makeC_len]; omega) hAB hokA hok)
  have HP := Lib.hid (fun (u : Value) (W : World) g => Peel_c u (lessC (makeC T.length l) T) k W g (by rw [lessC_len hAB, makeC_len]; exact hT) hk hk2 (lessC_ok hokA hok))
  have HAB := Lib.hid hAB
  have HLn := Lib.hid (lessC_len hAB)
  have HRT := Lib.hid hR2
  obtain ⟨a2, c2, rfl, -⟩ := hR2.cases
  obtain ⟨a1, c1, rfl, -⟩ := hR1.cases
  simp only [u64s_len] at *
  have HBk := Lib.hid hp
  have k0 := hp.cell 0 _ rfl
  clear hp hR1 hR2 hokA hok hx hAB HM hT hTn
  generalize makeC T.length l = A at *
  go_enter Tryd.func55, Tryd.ntmps55
  go_wp2_with (first
    | (go_at_call 43; refine HM'.out.mono ?_; rintro e w1 ⟨u, rfl, hu, hO1⟩; obtain ⟨ua, uc, rfl, -⟩ := row_len hu; have k1 := (hO1.blk HBk.out id).cell 0 _ rfl; have hu' := RdN.of_row hu; rw [← HAB.out] at hu'; have HU := Lib.hid hu'; clear hu hu')
    | (go_at_call 56; refine (HL.out _ _ _ (by have := HU.out; rw [HAB.out] at this ⊢; exact this) (HRT.out.no hO1)).mono ?_; rintro e w2 ⟨d, rfl, hd, hO2⟩; obtain ⟨da, dc, rfl, -⟩ := row_len hd; have hd' := RdN.of_row hd; rw [← HLn.out] at hd'; have HDd := Lib.hid hd'; clear hd hd')
    | (go_at_call 57; refine (HP.out _ _ (by have := HDd.out; rw [HLn.out] at this ⊢; exact this)).mono ?_; rintro e w3 ⟨o, p, rfl, ho, hp', hO3⟩))
  go_ret3
  exact ⟨_, _, rfl, ho, hp', (hO1.trans hO2).trans hO3⟩
def findCV (tb : Nat) : Value := .agg #[.func (.func 55) #[] #[.pointer (some ⟨tb, 0, none⟩)], .func (.func 48) #[] #[]]
set_option maxRecDepth 100000 in
set_option maxHeartbeats 1000000 in
theorem verdictC_c (v1 : Value) (l o p : List Nat) (b : Bool) (tb : Nat) (w : World) (hR1 : Rd w v1 (u64s l)) (hl : l.length ≤ 1000) (ho : o.length ≤ 5000) (hp : p.length ≤ 5000) (hx : ∀ x ∈ l, W64 x) (hxo : ∀ x ∈ o, W64 x) (hxp : ∀ x ∈ p, W64 x)
    (hF : ∀ W, Only No w W → Calls Tryd.prog 55 #[v1, .pointer (some ⟨tb, 0, none⟩)] W fun e w' => ∃ u1 u2, e = .returned (.tuple #[u1, u2, .bool b]) ∧ Rd w' u1 (u64s o) ∧ Rd w' u2 (u64s p) ∧ Only No W w') :
    Calls Tryd.prog 51 #[findCV tb, v1] w fun e w' => ∃ u1 u2, e = .returned (.agg #[.bool (byR b o p l).1, u1, u2]) ∧ Rd w' u1 (u64s (byR b o p l).2.1) ∧ Rd w' u2 (u64s (byR b o p l).2.2) ∧ Only No w w' := by
  have H1 := Lib.hid hF
  have H2 := Lib.hid (fun (u1 u2 : Value) (W : World) (hO : Only No w W) h1 h2 => owned_g v1 u1 u2 l o p W (hR1.no hO) h1 h2 (by omega) (by omega) (by omega) hx hxo hxp)
  obtain ⟨x, hxx⟩ : ∃ x, x = byR b o p l := ⟨_, rfl⟩
  rw [← hxx]
  have HX := Lib.hid hxx
  obtain ⟨a1, c1, rfl, -⟩ := hR1.cases
  simp only [u64s_len] at *
  have ent := enters_of Tryd.func55 (by kernel_rfl) rfl
  have ent2 := enters_of Tryd.func48 (by kernel_rfl) rfl
  have hi : (Tryd.prog.info? 39).map (·.size) = some 3 := by kernel_rfl
  have hn : ∀ (i : Nat) (x : Value), (#[Value.bool false, .slice none 0 0, .slice none 0 0] : Array Value)[i]? = some x → ∀ n : Int, x ≠ Value.int .u64 n := by
    intro i x hx n e
    subst e
    match i with
    | 0 => simp at hx
    | 1 => simp at hx
    | 2 => simp at hx
    | i + 3 => simp at hx
  have HN := Lib.hid hn
  unfold findCV
  clear hF hR1 hx hxo hxp hxx hn
  by_cases hok : b = true ∧ (sOut o l).length + (sIn p l).length = 0
  · obtain rfl : x = (true, o, p) := HX.out.trans (if_pos hok)
    obtain ⟨rfl, hz⟩ := hok
    rw [show ownB o p l = true from decide_eq_true hz] at H2
    clear hz
    go_enter Tryd.func51, Tryd.ntmps51
    go_wp2_with (first
      | (refine (H1.out _ (((Only.refl No w).alloc _).alloc _)).mono ?_; rintro e w1 ⟨u1, u2, rfl, r1, r2, hO1⟩; obtain ⟨b1, d1, rfl, -⟩ := r1.cases; obtain ⟨b2, d2, rfl, -⟩ := r2.cases; have hA := hO1.blk (((Only.refl No _).alloc _).blk (Blk.new w _ _) id) id; have k1 := hA.cell 1 _ rfl; have hB := hO1.blk (Blk.new (w.alloc _) _ _) id; rw [show ∀ o, (w.alloc o).heap.size = w.heap.size + 1 from fun o => by simp] at hB; simp only [u64s_len] at *)
      | (refine (H2.out _ _ _ ((((Only.refl No w).alloc _).alloc _).trans hO1) r1 r2).mono ?_; rintro e w2 ⟨rfl, hO2⟩; have hB2 := hO2.blk hB id; have q0 := hB2.cell 0 _ rfl; have q1 := hB2.cell 1 _ rfl; have q2 := hB2.cell 2 _ rfl; have f0 := hB2.free 0; have f1 := hB2.free 1; have f2 := hB2.free 2))
    generalize hW3 : ((w2.setCell _ _).setCell _ _).setCell _ _ = w3
    have hS : Blk w3 (w.heap.size + 1) #[.bool true, .slice b1 o.length d1, .slice b2 p.length d2] 39 := by rw [← hW3]; exact ((hB2.set 0 _).set 1 _).set 2 _
    have hO3 : Only (· = w.heap.size + 1) w2 w3 := by rw [← hW3]; exact (((Only.refl _ _).set1 _ _).set1 _ _).set1 _ _
    (try simp only [Exit.inBlock, Exit.then])
    refine bodyPost_ret (results_cell_row rfl _ _ (w.heap.size + 1) _ _ _ _ rfl hS Tryd.underlying39 rfl hi) rfl ?_
    exact ⟨_, _, rfl, (r1.no hO2).off hB2 HN.out hO3, (r2.no hO2).off hB2 HN.out hO3, ((((Only.refl No w).alloc _).alloc _).trans (hO1.trans hO2)).then hO3 (fun i hi e => by exfalso; have e' : i = w.heap.size + 1 := e; omega)⟩
  · obtain rfl : x = (false, [], []) := HX.out.trans (if_neg hok)
    cases b
    · clear hok H2
      go_enter Tryd.func51, Tryd.ntmps51
      go_wp2_with (refine (H1.out _ (((Only.refl No w).alloc _).alloc _)).mono ?_; rintro e w1 ⟨u1, u2, rfl, r1, r2, hO1⟩; obtain ⟨b1, d1, rfl, -⟩ := r1.cases; obtain ⟨b2, d2, rfl, -⟩ := r2.cases; have hA := hO1.blk (((Only.refl No _).alloc _).blk (Blk.new w _ _) id) id; have k1 := hA.cell 1 _ rfl; have hB := hO1.blk (Blk.new (w.alloc _) _ _) id; rw [show ∀ o, (w.alloc o).heap.size = w.heap.size + 1 from fun o => by simp] at hB; have q0 := hB.cell 0 _ rfl; have q1 := hB.cell 1 _ rfl; have q2 := hB.cell 2 _ rfl; have f0 := hB.free 0; have f1 := hB.free 1; have f2 := hB.free 2)
      generalize hW3 : ((w1.setCell _ _).setCell _ _).setCell _ _ = w3
      have hS : Blk w3 (w.heap.size + 1) #[.bool false, .slice none 0 0, .slice none 0 0] 39 := by rw [← hW3]; exact ((hB.set 0 _).set 1 _).set 2 _
      have hO3 : Only (· = w.heap.size + 1) w1 w3 := by rw [← hW3]; exact (((Only.refl _ _).set1 _ _).set1 _ _).set1 _ _
      (try simp only [Exit.inBlock, Exit.then])
      refine bodyPost_ret (results_cell_row rfl _ _ (w.heap.size + 1) _ _ _ _ rfl hS Tryd.underlying39 rfl hi) rfl ?_
      exact ⟨_, _, rfl, Rd.nil _ _ _, Rd.nil _ _ _, ((((Only.refl No w).alloc _).alloc _).trans hO1).then hO3 (fun i hi e => by exfalso; have e' : i = w.heap.size + 1 := e; omega)⟩
    · have hz : ownB o p l = false := decide_eq_false (fun h => hok ⟨rfl, h⟩)
      rw [hz] at H2
      clear hok hz
      go_enter Tryd.func51, Tryd.ntmps51
      go_wp2_with (first
        | (refine (H1.out _ (((Only.refl No w).alloc _).alloc _)).mono ?_; rintro e w1 ⟨u1, u2, rfl, r1, r2, hO1⟩; obtain ⟨b1, d1, rfl, -⟩ := r1.cases; obtain ⟨b2, d2, rfl, -⟩ := r2.cases; have hA := hO1.blk (((Only.refl No _).alloc _).blk (Blk.new w _ _) id) id; have k1 := hA.cell 1 _ rfl; have hB := hO1.blk (Blk.new (w.alloc _) _ _) id; rw [show ∀ o, (w.alloc o).heap.size = w.heap.size + 1 from fun o => by simp] at hB; simp only [u64s_len] at *)
        | (refine (H2.out _ _ _ ((((Only.refl No w).alloc _).alloc _).trans hO1) r1 r2).mono ?_; rintro e w2 ⟨rfl, hO2⟩; have hB2 := hO2.blk hB id; have q0 := hB2.cell 0 _ rfl; have q1 := hB2.cell 1 _ rfl; have q2 := hB2.cell 2 _ rfl; have f0 := hB2.free 0; have f1 := hB2.free 1; have f2 := hB2.free 2))
      generalize hW3 : ((w2.setCell _ _).setCell _ _).setCell _ _ = w3
      have hS : Blk w3 (w.heap.size + 1) #[.bool false, .slice none 0 0, .slice none 0 0] 39 := by rw [← hW3]; exact ((hB2.set 0 _).set 1 _).set 2 _
      have hO3 : Only (· = w.heap.size + 1) w2 w3 := by rw [← hW3]; exact (((Only.refl _ _).set1 _ _).set1 _ _).set1 _ _
      (try simp only [Exit.inBlock, Exit.then])
      refine bodyPost_ret (results_cell_row rfl _ _ (w.heap.size + 1) _ _ _ _ rfl hS Tryd.underlying39 rfl hi) rfl ?_
      exact ⟨_, _, rfl, Rd.nil _ _ _, Rd.nil _ _ _, ((((Only.refl No w).alloc _).alloc _).trans (hO1.trans hO2)).then hO3 (fun i hi e => by exfalso; have e' : i = w.heap.size + 1 := e; omega)⟩
set_option maxRecDepth 100000 in
set_option maxHeartbeats 1000000 in
theorem ByCells_c (v1 v2 : Value) (l o p : List Nat) (b : Bool) (n : Nat) (w : World) (a2 : Option Addr) (c2 : Nat) (h2 : v2 = .slice a2 n c2) (hR1 : Rd w v1 (u64s l)) (hl : l.length ≤ 1000) (ho : o.length ≤ 5000) (hp : p.length ≤ 5000) (hx : ∀ x ∈ l, W64 x) (hxo : ∀ x ∈ o, W64 x) (hxp : ∀ x ∈ p, W64 x)
    (hF : ∀ tb W, Only No w W → Blk W tb #[v2] 42 → Calls Tryd.prog 55 #[v1, .pointer (some ⟨tb, 0, none⟩)] W fun e w' => ∃ u1 u2, e = .returned (.tuple #[u1, u2, .bool b]) ∧ Rd w' u1 (u64s o) ∧ Rd w' u2 (u64s p) ∧ Only No W w') :
    Calls Tryd.prog 23 #[v1, v2] w fun e w' => ∃ u1 u2, e = .returned (.agg #[.bool (byR b o p l).1, u1, u2]) ∧ Rd w' u1 (u64s (byR b o p l).2.1) ∧ Rd w' u2 (u64s (byR b o p l).2.2) ∧ Only No w w' := by
  have H := Lib.hid (fun (tb : Nat) (W : World) (hO : Only No w W) hB => verdictC_c v1 l o p b tb W (hR1.no hO) hl ho hp hx hxo hxp (fun W' hO' => hF tb W' (hO.trans hO') (hO'.blk hB id)))
  unfold findCV at H
  generalize byR b o p l = R at *
  obtain ⟨Rb, Ro, Rp⟩ := R
  simp only at H ⊢
  subst h2
  have hi : (Tryd.prog.info? 39).map (·.size) = some 3 := by kernel_rfl
  have hn : ∀ (i : Nat) (x : Value), (#[Value.bool false, .slice none 0 0, .slice none 0 0] : Array Value)[i]? = some x → ∀ n : Int, x ≠ Value.int .u64 n := by
    intro i x hx n e
    subst e
    match i with
    | 0 => simp at hx
    | 1 => simp at hx
    | 2 => simp at hx
    | i + 3 => simp at hx
  have HN := Lib.hid hn
  obtain ⟨a1, c1, rfl, -⟩ := hR1.cases
  simp only [u64s_len] at *
  clear hR1 hx hxo hxp hF hn
  go_enter Tryd.func23, Tryd.ntmps23
  go_wp2_with (go_at_call 51; refine (H.out w.heap.size _ ((((Only.refl No w).alloc _).alloc _).alloc _) ((((Only.refl No _).alloc _).alloc _).blk (Blk.new w _ _) id)).mono ?_; rintro e w1 ⟨u1, u2, rfl, r1, r2, hO1⟩; obtain ⟨b1, d1, rfl, -⟩ := r1.cases; obtain ⟨b2, d2, rfl, -⟩ := r2.cases; have hB2 := hO1.blk (((Only.refl No _).alloc _).blk (Blk.new (w.alloc _) _ _) id) id; rw [show ∀ o, (w.alloc o).heap.size = w.heap.size + 1 from fun o => by simp] at hB2; simp only [u64s_len] at *; have q0 := hB2.cell 0 _ rfl; have q1 := hB2.cell 1 _ rfl; have q2 := hB2.cell 2 _ rfl; have f0 := hB2.free 0; have f1 := hB2.free 1; have f2 := hB2.free 2)
  generalize hW3 : ((w1.setCell _ _).setCell _ _).setCell _ _ = w3
  have hS : Blk w3 (w.heap.size + 1) #[.bool Rb, .slice b1 Ro.length d1, .slice b2 Rp.length d2] 39 := by rw [← hW3]; exact ((hB2.set 0 _).set 1 _).set 2 _
  have hO3 : Only (· = w.heap.size + 1) w1 w3 := by rw [← hW3]; exact (((Only.refl _ _).set1 _ _).set1 _ _).set1 _ _
  (try simp only [Exit.inBlock, Exit.then])
  refine bodyPost_ret (results_cell_row rfl _ _ (w.heap.size + 1) _ _ _ _ rfl hS Tryd.underlying39 rfl hi) rfl ?_
  exact ⟨_, _, rfl, r1.off hB2 HN.out hO3, r2.off hB2 HN.out hO3, ((((Only.refl No w).alloc _).alloc _).alloc _ |>.trans hO1).then hO3 (fun i hi e => by exfalso; have e' : i = w.heap.size + 1 := e; omega)⟩
set_option maxRecDepth 100000 in
theorem Need_c (v1 v2 : Value) (l : List Nat) (w : World) (hT : Tab w) (hR1 : Rd w v1 (u64s l)) (h2 : Sk w v2 (skL l)) (hl : l.length ≤ 1000) (hx : ∀ x ∈ l, W64 x) :
    Calls Tryd.prog 25 #[v1, v2] w fun e w' => e = .returned (.tuple #[.int .i64 12, .int .i64 0]) ∧ Only No w w' := by
  have h16 := lessS_len l l
  have h12 := lessS_12 (a := l) (b := l)
  have hok := lessS_ok hx hx
  have hc : cellsN 0 = 12 := by decide
  have HM := Lib.hid (skMake_c v1 l w hT hR1 hl hx)
  have HL := Lib.hid (fun (u : Value) (W : World) (hO : Only No w W) g => skLess_c u v2 (skL l) (skL l) W g (h2.no hO) (skL_ok hx) (skL_ok hx) (by rw [skL_len]; omega) (by rw [skL_len]; omega) (fun M hM => by rw [skL_12 M hM]; omega))
  rw [lessR_skL] at HL
  have HG := Lib.hid (fun (u : Value) (W : World) g => Guess_c u (lessS (skL l) (skL l)) W g hok (by rw [h16]; omega) (fun M hM => by rw [h12 M hM]; omega))
  rw [guess_self] at HG
  have HC := fun (W : World) => skCells_c 0 W
  rw [hc] at HC
  have HC' := Lib.hid HC
  clear HC hc h16 h12 hok hT hR1 h2 hx
  generalize lessS (skL l) (skL l) = D at *
  go_enter Tryd.func25, Tryd.ntmps25
  go_wp2_with (first
    | (go_at_call 13; refine HM.out.mono ?_; rintro e w1 ⟨u, rfl, hu, hO1⟩)
    | (go_at_call 58; refine (HL.out _ _ hO1 hu).mono ?_; rintro e w2 ⟨d, rfl, hd, hO2⟩)
    | (go_at_call 30; refine (HG.out _ _ hd).mono ?_; rintro e w3 ⟨rfl, hO3⟩)
    | (go_at_call 14; refine (HC'.out _).mono ?_; rintro e w' ⟨rfl, rfl⟩))
  go_ret2
  exact ⟨rfl, (hO1.trans hO2).trans hO3⟩
end Go.Proofs.YtdcinifcpaldiaaDoor
