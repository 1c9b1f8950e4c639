/- By a list one comes to what the other side has, by its table, if the verdict is Ok, to what has the same table; nothing differs where nothing does: ReconSettles returns true for every input (the library's table as the program's text lays it). -/
import Derived.Test.YtdcinifcpaldiaaDoorReconC
import Derived.Test.YtdcinifcpaldiaaDoorOpenC
import Derived.Test.YtdcinifcpaldiaaDoorDoor
namespace Go.Proofs.YtdcinifcpaldiaaDoor
open Go.ChangeShapes Go.WideShapes Go.ChangeAt Go.RowKit Go.Deep

set_option maxRecDepth 100000 in
set_option maxHeartbeats 2000000 in
theorem settles_no (v1 v2 : Value) (l m : List Nat) (n : Int) (w : World) (hT : Tab w) (hR1 : Rd w v1 (u64s l)) (hR2 : Rd w v2 (u64s m)) (hl : l.length ≤ 30) (hm : m.length ≤ 30) (hx1 : ∀ y ∈ l, W64 y) (hx2 : ∀ y ∈ m, W64 y) (hmay : ¬ May n) :
    Calls Tryd.prog 4 #[v1, v2, .int .i64 n] w fun e w' => e = .returned (.bool true) ∧ Only No w w' := by
  have hsl1 := sOut_len l m
  have hsl2 := sOut_len m l
  have hrl := rise_len l
  have hrm := rise_len m
  have HBL := Lib.hid (fun (W : World) (hO : Only No w W) => ByList_c v1 v2 l m W (hR1.no hO) (hR2.no hO) (by omega) (by omega) hx1 hx2)
  have HSt := Lib.hid (fun (u1 u2 : Value) (W : World) (hO : Only No w W) g1 g2 => Settle_c v1 u1 u2 l (sOut l m) (sOut m l) W (hR1.no hO) g1 g2 (by omega) (by omega) (by omega) hx1 (w64_sOut hx1) (w64_sOut hx2))
  rw [settle_list] at HSt
  have HRm := Lib.hid (fun (W : World) (hO : Only No w W) => Rise_c v2 m W (hR2.no hO) (by omega))
  have HRl := Lib.hid (fun (W : World) (hO : Only No w W) => Rise_c v1 l W (hR1.no hO) (by omega))
  have HU1 := Lib.hid (fun (x y : Value) (W : World) g1 g2 => same_u (rise m) (by omega) x y W g1 g2)
  have HUx := Lib.hid (fun (x y : Value) (W : World) g1 g2 => calls_only_of_drew' (Same_c x y (rise l) (rise m) W g1 g2 (by omega) (by omega)))
  have HSd := Lib.hid (fun (W : World) (hO : Only No w W) => rSides2_c v1 v2 l m W (hR1.no hO) (hR2.no hO) (by omega) (by omega))
  have HK1 := Lib.hid (fun (W : World) (hO : Only No w W) => rskMake_c v1 l W (hR1.no hO) (by omega) hx1)
  have HNd := Lib.hid (fun (v : Value) (W : World) (hO : Only No w W) g => Need_c v1 v l W (hT.no hO) (hR1.no hO) g (by omega) hx1)
  have g1 : ¬ (30 : Int) < (l.length : Int) := by omega
  have g2 : ¬ (30 : Int) < (m.length : Int) := by omega
  have HMk := Lib.hid (fun (W : World) => rMake_no n v2 W hmay)
  have HBC := Lib.hid (fun (W : World) (hO : Only No w W) => ByCells_c v1 (.slice none 0 0) l [] [] false 0 W none 0 rfl (hR1.no hO) (by omega) (by simp) (by simp) hx1 (by simp) (by simp)
    (fun tb W' hO' hB => (findC_no v1 (.slice none 0 0) l [] tb W' hB ((hR1.no hO).no hO') ⟨none, 0, rfl, by simp, by simp, fun h => absurd h (by simp)⟩ (fun h => by have := h.1; simp at this)).mono (fun e w'' ⟨he, hO''⟩ => ⟨_, _, he, Rd.nil _ _ _, Rd.nil _ _ _, hO''⟩)))
  have e0 : byR false [] [] l = (false, [], []) := if_neg (fun h => by simp at h)
  rw [e0] at HBC
  obtain ⟨a1, c1, rfl, -⟩ := hR1.cases
  obtain ⟨a2, c2, rfl, -⟩ := hR2.cases
  simp only [u64s_len] at *
  clear hT hR1 hR2 hx1 hx2 hmay e0
  generalize rise m = rm at *
  generalize sOut l m = P at *
  generalize sOut m l = Q at *
  go_enter Tryd.func4, Tryd.ntmps4
  go_wp2_with (first
    | (go_at_call 20; refine (HBL.out _ (Only.refl _ _)).mono ?_; rintro e w1 ⟨q1, q2, rfl, rq1, rq2, hO1⟩; obtain ⟨qa, qc, rfl, -⟩ := rq1.cases; obtain ⟨qb, qd, rfl, -⟩ := rq2.cases; simp only [u64s_len] at rq1 rq2 ⊢)
    | (go_at_call 19; ((with_reducible refine (HSt.out _ _ _ hO1 rq1 rq2).mono ?_); rintro e w2 ⟨z1, rfl, rz1, hO2⟩))
    | (go_at_call 21; ((with_reducible refine (HRm.out _ (hO1.trans hO2)).mono ?_); rintro e w3 ⟨z2, rfl, rz2, hO3⟩))
    | (go_at_call 18; ((with_reducible refine (HU1.out _ _ _ (rz1.no hO3) rz2).mono ?_); rintro e w4 ⟨rfl, hO4⟩; have hOa := (hO1.trans hO2).trans (hO3.trans hO4)))
    | (go_at_call 22; refine (HMk.out _).mono ?_; rintro e w' ⟨rfl, rfl⟩)
    | (go_at_call 23; refine (HBC.out _ hOa).mono ?_; rintro e w5 ⟨p1, p2, rfl, rp1, rp2, hO5⟩; obtain ⟨pa, pc, rfl, -⟩ := rp1.cases; obtain ⟨pb, pd, rfl, -⟩ := rp2.cases)
    | (go_at_call 17; refine (alive26_c _).mono ?_; rintro e w6 ⟨rfl, hO6⟩))
  go_ret
  exact ⟨rfl, ((hOa.trans hO5).alloc _).trans hO6⟩
set_option maxRecDepth 100000 in
set_option maxHeartbeats 2000000 in
theorem settles_false (v1 v2 : Value) (l m o p : List Nat) (b : Bool) (k : Nat) (w : World) (hT : Tab w) (hR1 : Rd w v1 (u64s l)) (hR2 : Rd w v2 (u64s m)) (hl : l.length ≤ 30) (hm : m.length ≤ 30) (hx1 : ∀ y ∈ l, W64 y) (hx2 : ∀ y ∈ m, W64 y) (hk : 1 ≤ k) (hk2 : k ≤ 1365)
    (hF : peelF k (lessC (makeC (3 * k) l) (makeC (3 * k) m)) = (b, o, p)) (hB : byR b o p l = (false, [], [])) (hs : sameL (rise l) (rise m) = false) (hsum : (sOut l m).length + (sOut m l).length ≠ 1) :
    Calls Tryd.prog 4 #[v1, v2, .int .i64 ((3 * k : Nat) : Int)] w fun e w' => e = .returned (.bool true) ∧ Only No w w' := by
  have hsl1 := sOut_len l m
  have hsl2 := sOut_len m l
  have hrl := rise_len l
  have hrm := rise_len m
  have HBL := Lib.hid (fun (W : World) (hO : Only No w W) => ByList_c v1 v2 l m W (hR1.no hO) (hR2.no hO) (by omega) (by omega) hx1 hx2)
  have HSt := Lib.hid (fun (u1 u2 : Value) (W : World) (hO : Only No w W) g1 g2 => Settle_c v1 u1 u2 l (sOut l m) (sOut m l) W (hR1.no hO) g1 g2 (by omega) (by omega) (by omega) hx1 (w64_sOut hx1) (w64_sOut hx2))
  rw [settle_list] at HSt
  have HRm := Lib.hid (fun (W : World) (hO : Only No w W) => Rise_c v2 m W (hR2.no hO) (by omega))
  have HRl := Lib.hid (fun (W : World) (hO : Only No w W) => Rise_c v1 l W (hR1.no hO) (by omega))
  have HU1 := Lib.hid (fun (x y : Value) (W : World) g1 g2 => same_u (rise m) (by omega) x y W g1 g2)
  have HUx := Lib.hid (fun (x y : Value) (W : World) g1 g2 => calls_only_of_drew' (Same_c x y (rise l) (rise m) W g1 g2 (by omega) (by omega)))
  have HSd := Lib.hid (fun (W : World) (hO : Only No w W) => rSides2_c v1 v2 l m W (hR1.no hO) (hR2.no hO) (by omega) (by omega))
  have HK1 := Lib.hid (fun (W : World) (hO : Only No w W) => rskMake_c v1 l W (hR1.no hO) (by omega) hx1)
  have HNd := Lib.hid (fun (v : Value) (W : World) (hO : Only No w W) g => Need_c v1 v l W (hT.no hO) (hR1.no hO) g (by omega) hx1)
  have g1 : ¬ (30 : Int) < (l.length : Int) := by omega
  have g2 : ¬ (30 : Int) < (m.length : Int) := by omega
  have hTl : (makeC (3 * k) m).length = 3 * k := makeC_len _ _
  have hokT := makeC_ok (m := 3 * k) hx2
  have hokD := lessC_ok (makeC_ok (m := 3 * k) hx1) hokT
  have hDl : (lessC (makeC (3 * k) l) (makeC (3 * k) m)).length = 3 * k := by rw [lessC_len (by rw [makeC_len, makeC_len]), makeC_len]
  obtain ⟨hol, hxo, hxp⟩ := peelF_len hokD hF
  rw [hDl] at hol
  have HMk := Lib.hid (fun (W : World) (hO : Only No w W) => rMake_c k v2 m W hk hk2 (hR2.no hO) (by omega) hx2)
  have HBC := Lib.hid (fun (a : Option Addr) (c : Nat) (W : World) (hO : Only No w W) (hg : RdN 3 W (.slice a (3 * k) c) (3 * k) (fl encC (makeC (3 * k) m))) => ByCells_c v1 (.slice a (3 * k) c) l o p b (3 * k) W a c rfl (hR1.no hO) (by omega) (by omega) (by omega) hx1 hxo hxp
    (fun tb W' hO' hB => by
      have := findC_yes v1 (.slice a (3 * k) c) l (makeC (3 * k) m) k tb W' hB ((hR1.no hO).no hO') (by rw [hTl]; exact hg.no hO') hTl hk hk2 hokT (by omega) hx1
      rw [hF] at this
      exact this))
  rw [hB] at HBC
  rw [hs] at HUx
  have hne : ((((sOut l m).length : Nat) : Int) + (((sOut m l).length : Nat) : Int) != 1) = true := by simp; omega
  obtain ⟨n, hn⟩ : ∃ n : Nat, n = 3 * k := ⟨_, rfl⟩
  rw [← hn] at HMk HBC ⊢
  obtain ⟨a1, c1, rfl, -⟩ := hR1.cases
  obtain ⟨a2, c2, rfl, -⟩ := hR2.cases
  simp only [u64s_len] at *
  have hnb : n ≤ 5000 := by omega
  clear hT hR1 hR2 hx1 hx2 hTl hokT hokD hDl hol hxo hxp hF hB hs hsum hn hk hk2
  generalize rise m = rm at *
  generalize rise l = rl at *
  generalize sOut l m = P at *
  generalize sOut m l = Q at *
  generalize makeC n m = T at *
  go_enter Tryd.func4, Tryd.ntmps4
  go_wp2_with (first
    | (go_at_call 20; refine (HBL.out _ (Only.refl _ _)).mono ?_; rintro e w1 ⟨q1, q2, rfl, rq1, rq2, hO1⟩; obtain ⟨qa, qc, rfl, -⟩ := rq1.cases; obtain ⟨qb, qd, rfl, -⟩ := rq2.cases; simp only [u64s_len] at rq1 rq2 ⊢)
    | (go_at_call 19; ((with_reducible refine (HSt.out _ _ _ hO1 rq1 rq2).mono ?_); rintro e w2 ⟨z1, rfl, rz1, hO2⟩))
    | (go_at_call 21; ((with_reducible refine (HRm.out _ (hO1.trans hO2)).mono ?_); rintro e w3 ⟨z2, rfl, rz2, hO3⟩))
    | (go_at_call 18; ((with_reducible refine (HU1.out _ _ _ (rz1.no hO3) rz2).mono ?_); rintro e w4 ⟨rfl, hO4⟩; have hOa := (hO1.trans hO2).trans (hO3.trans hO4)))
    | (go_at_call 22; refine (HMk.out _ hOa).mono ?_; rintro e w5 ⟨t, rfl, ht, hO5⟩; obtain ⟨ta, tc, rfl, -⟩ := row_len ht; have HTr := Lib.hid (RdN.of_row ht); clear ht)
    | (go_at_call 23; refine (HBC.out _ _ _ (hOa.trans hO5) HTr.out).mono ?_; rintro e w6 ⟨p1, p2, rfl, rp1, rp2, hO6⟩; obtain ⟨pa, pc, rfl, -⟩ := rp1.cases; obtain ⟨pb, pd, rfl, -⟩ := rp2.cases; have hOb := (hOa.trans hO5).trans hO6)
    | (go_at_call 21; ((with_reducible refine (HRl.out _ (hOb.alloc _)).mono ?_); rintro e w7 ⟨y1, rfl, ry1, hO7⟩; have hOc := (hOb.alloc _).trans hO7))
    | (go_at_call 21; ((with_reducible refine (HRm.out _ hOc).mono ?_); rintro e w8 ⟨y2, rfl, ry2, hO8⟩))
    | (go_at_call 18; ((with_reducible refine (HUx.out _ _ _ (ry1.no hO8) ry2).mono ?_); rintro e w9 ⟨rfl, hO9⟩; have hOd := (hOc.trans hO8).trans hO9))
    | (go_at_call 9; refine (HK1.out _ hOd).mono ?_; rintro e w10 ⟨s, rfl, hs10, hO10⟩)
    | (go_at_call 25; refine (HNd.out _ _ (hOd.trans hO10) hs10).mono ?_; rintro e w11 ⟨rfl, hO11⟩; have hOf := (hOd.trans hO10).trans hO11)
    | (go_at_call 26; refine (HSd.out _ hOf).mono ?_; rintro e w12 ⟨x1, x2, rfl, rx1, rx2, hO12⟩; obtain ⟨xa, xc, rfl, -⟩ := rx1.cases; obtain ⟨xb, xd, rfl, -⟩ := rx2.cases; simp only [u64s_len] at rx1 rx2 ⊢)
    | (go_at_call 17; refine (alive26_c _).mono ?_; rintro e w13 ⟨rfl, hO13⟩))
  go_ret
  exact ⟨rfl, (hOf.trans hO12).trans hO13⟩
set_option maxRecDepth 100000 in
set_option maxHeartbeats 4000000 in
theorem settles_same (v1 v2 : Value) (l m o p : List Nat) (b : Bool) (k : Nat) (w : World) (hT : Tab w) (hR1 : Rd w v1 (u64s l)) (hR2 : Rd w v2 (u64s m)) (hl : l.length ≤ 30) (hm : m.length ≤ 30) (hx1 : ∀ y ∈ l, W64 y) (hx2 : ∀ y ∈ m, W64 y) (hk : 1 ≤ k) (hk2 : k ≤ 1365)
    (hF : peelF k (lessC (makeC (3 * k) l) (makeC (3 * k) m)) = (b, o, p)) (hb : b = true) (hB : byR b o p l = (true, o, p)) (ho : sOut o l = []) (hp : sIn p l = []) (hs : sameL (rise l) (rise m) = true) (hop : o.length + p.length = 0) (hsum : (sOut l m).length + (sOut m l).length ≠ 1) :
    Calls Tryd.prog 4 #[v1, v2, .int .i64 ((3 * k : Nat) : Int)] w fun e w' => e = .returned (.bool true) ∧ Only No w w' := by
  have hsl1 := sOut_len l m
  have hsl2 := sOut_len m l
  have hrl := rise_len l
  have hrm := rise_len m
  have HBL := Lib.hid (fun (W : World) (hO : Only No w W) => ByList_c v1 v2 l m W (hR1.no hO) (hR2.no hO) (by omega) (by omega) hx1 hx2)
  have HSt := Lib.hid (fun (u1 u2 : Value) (W : World) (hO : Only No w W) g1 g2 => Settle_c v1 u1 u2 l (sOut l m) (sOut m l) W (hR1.no hO) g1 g2 (by omega) (by omega) (by omega) hx1 (w64_sOut hx1) (w64_sOut hx2))
  rw [settle_list] at HSt
  have HRm := Lib.hid (fun (W : World) (hO : Only No w W) => Rise_c v2 m W (hR2.no hO) (by omega))
  have HRl := Lib.hid (fun (W : World) (hO : Only No w W) => Rise_c v1 l W (hR1.no hO) (by omega))
  have HU1 := Lib.hid (fun (x y : Value) (W : World) g1 g2 => same_u (rise m) (by omega) x y W g1 g2)
  have HUx := Lib.hid (fun (x y : Value) (W : World) g1 g2 => calls_only_of_drew' (Same_c x y (rise l) (rise m) W g1 g2 (by omega) (by omega)))
  have HSd := Lib.hid (fun (W : World) (hO : Only No w W) => rSides2_c v1 v2 l m W (hR1.no hO) (hR2.no hO) (by omega) (by omega))
  have HK1 := Lib.hid (fun (W : World) (hO : Only No w W) => rskMake_c v1 l W (hR1.no hO) (by omega) hx1)
  have HNd := Lib.hid (fun (v : Value) (W : World) (hO : Only No w W) g => Need_c v1 v l W (hT.no hO) (hR1.no hO) g (by omega) hx1)
  have g1 : ¬ (30 : Int) < (l.length : Int) := by omega
  have g2 : ¬ (30 : Int) < (m.length : Int) := by omega
  have hTl : (makeC (3 * k) m).length = 3 * k := makeC_len _ _
  have hokT := makeC_ok (m := 3 * k) hx2
  have hokD := lessC_ok (makeC_ok (m := 3 * k) hx1) hokT
  have hDl : (lessC (makeC (3 * k) l) (makeC (3 * k) m)).length = 3 * k := by rw [lessC_len (by rw [makeC_len, makeC_len]), makeC_len]
  obtain ⟨hol, hxo, hxp⟩ := peelF_len hokD hF
  rw [hDl] at hol
  have HMk := Lib.hid (fun (W : World) (hO : Only No w W) => rMake_c k v2 m W hk hk2 (hR2.no hO) (by omega) hx2)
  have HBC := Lib.hid (fun (a : Option Addr) (c : Nat) (W : World) (hO : Only No w W) (hg : RdN 3 W (.slice a (3 * k) c) (3 * k) (fl encC (makeC (3 * k) m))) => ByCells_c v1 (.slice a (3 * k) c) l o p b (3 * k) W a c rfl (hR1.no hO) (by omega) (by omega) (by omega) hx1 hxo hxp
    (fun tb W' hO' hB => by
      have := findC_yes v1 (.slice a (3 * k) c) l (makeC (3 * k) m) k tb W' hB ((hR1.no hO).no hO') (by rw [hTl]; exact hg.no hO') hTl hk hk2 hokT (by omega) hx1
      rw [hF] at this
      exact this))
  rw [hB] at HBC
  have hX := settle_cells hx1 hx2 (by rw [hF, hb]) ho hp
  have hxl : (rise (sOut l o ++ p)).length ≤ 1000000 := by have h1 := rise_len (sOut l o ++ p); rw [List.length_append] at h1; have h2 := sOut_len l o; omega
  have hxw : ∀ x ∈ rise (sOut l o ++ p), W64 x := fun x hx => by
    rw [mem_rise, List.mem_append] at hx
    rcases hx with hx | hx
    · exact w64_sOut hx1 x hx
    · exact hxp x hx
  have HSv := Lib.hid (fun (u1 u2 : Value) (W : World) (hO : Only No w W) g1 g2 => Settle_c v1 u1 u2 l o p W (hR1.no hO) g1 g2 (by omega) (by omega) (by omega) hx1 hxo hxp)
  have HMx := Lib.hid (fun (v : Value) (W : World) g => rMake_c k v (rise (sOut l o ++ p)) W hk hk2 g hxl hxw)
  rw [hX] at HMx
  have HSc := Lib.hid (fun (x y : Value) (W : World) g1 g2 => SameC_c x y (makeC (3 * k) m) (makeC (3 * k) m) W g1 g2 (by omega) (by omega))
  rw [sameC_self, hTl] at HSc
  obtain ⟨n, hn⟩ : ∃ n : Nat, n = 3 * k := ⟨_, rfl⟩
  rw [← hn] at HMk HBC HMx HSc ⊢
  have hnb : n ≤ 5000 := by omega
  have hob : o.length + p.length ≤ 5000 := by omega
  rw [hs] at HUx
  have hne : ((((sOut l m).length : Nat) : Int) + (((sOut m l).length : Nat) : Int) != 1) = true := by simp; omega
  have hz0 : ¬ (0 : Int) < (o.length : Int) + (p.length : Int) := by omega
  clear hop
  obtain ⟨a1, c1, rfl, -⟩ := hR1.cases
  obtain ⟨a2, c2, rfl, -⟩ := hR2.cases
  simp only [u64s_len] at *
  clear hT hR1 hR2 hx1 hx2 hTl hokT hokD hDl hol hxo hxp hF hb hB hs hn hk hk2 hX hxl hxw ho hp
  clear hsum
  generalize rise (sOut l o ++ p) = X at *
  generalize rise m = rm at *
  generalize rise l = rl at *
  generalize makeC n m = T at *
  generalize sOut l m = P at *
  generalize sOut m l = Q at *
  go_enter Tryd.func4, Tryd.ntmps4
  go_wp2_with (first
    | (go_at_call 20; refine (HBL.out _ (Only.refl _ _)).mono ?_; rintro e w1 ⟨q1, q2, rfl, rq1, rq2, hO1⟩; obtain ⟨qa, qc, rfl, -⟩ := rq1.cases; obtain ⟨qb, qd, rfl, -⟩ := rq2.cases; simp only [u64s_len] at rq1 rq2 ⊢)
    | (go_at_call 19; ((with_reducible refine (HSt.out _ _ _ hO1 rq1 rq2).mono ?_); rintro e w2 ⟨z1, rfl, rz1, hO2⟩))
    | (go_at_call 21; ((with_reducible refine (HRm.out _ (hO1.trans hO2)).mono ?_); rintro e w3 ⟨z2, rfl, rz2, hO3⟩))
    | (go_at_call 18; ((with_reducible refine (HU1.out _ _ _ (rz1.no hO3) rz2).mono ?_); rintro e w4 ⟨rfl, hO4⟩; have hOa := (hO1.trans hO2).trans (hO3.trans hO4)))
    | (go_at_call 22; ((with_reducible refine (HMk.out _ hOa).mono ?_); rintro e w5 ⟨t, rfl, ht, hO5⟩; obtain ⟨ta, tc, rfl, -⟩ := row_len ht; have HTr := Lib.hid (RdN.of_row ht); clear ht))
    | (go_at_call 23; refine (HBC.out _ _ _ (hOa.trans hO5) HTr.out).mono ?_; rintro e w6 ⟨p1, p2, rfl, rp1, rp2, hO6⟩; obtain ⟨pa, pc, rfl, -⟩ := rp1.cases; obtain ⟨pb, pd, rfl, -⟩ := rp2.cases; simp only [u64s_len] at rp1 rp2 ⊢; have hOb := (hOa.trans hO5).trans hO6)
    | (go_at_call 19; ((with_reducible refine (HSv.out _ _ _ (hOb.alloc _) (rp1.no ((Only.refl No w6).alloc _)) (rp2.no ((Only.refl No w6).alloc _))).mono ?_); rintro e w7 ⟨z3, rfl, rz3, hO7⟩))
    | (go_at_call 22; ((with_reducible refine (HMx.out _ _ rz3).mono ?_); rintro e w8 ⟨t2, rfl, ht2, hO8⟩; obtain ⟨tb, td, rfl, -⟩ := row_len ht2; have HTx := Lib.hid (RdN.of_row ht2); clear ht2; have hOv := hO7.trans hO8))
    | (go_at_call 24; ((with_reducible refine (HSc.out _ _ _ HTx.out (HTr.out.no ((hO6.alloc _).trans hOv))).mono ?_); rintro e w9 ⟨rfl, hO9⟩; have hOv9 := hOv.trans hO9; have hOc0 := (hOb.alloc _).trans hOv9))
    | (go_at_call 21; ((with_reducible refine (HRl.out _ hOc0).mono ?_); rintro e w10 ⟨y1, rfl, ry1, hO10⟩; have hOc := hOc0.trans hO10))
    | (go_at_call 21; ((with_reducible refine (HRm.out _ hOc).mono ?_); rintro e w11 ⟨y2, rfl, ry2, hO11⟩))
    | (go_at_call 18; ((with_reducible refine (HUx.out _ _ _ (ry1.no hO11) ry2).mono ?_); rintro e w12 ⟨rfl, hO12⟩; have hOd := (hOc.trans hO11).trans hO12; have hOv12 := hOv9.trans (hO10.trans (hO11.trans hO12)); have hV12 := hOv12.blk (Blk.new w6 _ _) id; have k0 := hV12.cell 0 _ rfl; have k1 := hV12.cell 1 _ rfl; have k2 := hV12.cell 2 _ rfl; clear hV12))
    | (go_at_call 9; refine (HK1.out _ hOd).mono ?_; rintro e w13 ⟨s, rfl, hs13, hO13⟩)
    | (go_at_call 25; refine (HNd.out _ _ (hOd.trans hO13) hs13).mono ?_; rintro e w14 ⟨rfl, hO14⟩; have hOf := (hOd.trans hO13).trans hO14)
    | (go_at_call 26; refine (HSd.out _ hOf).mono ?_; rintro e w15 ⟨x1, x2, rfl, rx1, rx2, hO15⟩; obtain ⟨xa, xc, rfl, -⟩ := rx1.cases; obtain ⟨xb, xd, rfl, -⟩ := rx2.cases; simp only [u64s_len] at rx1 rx2 ⊢; have hOv15 := hOv12.trans (hO13.trans (hO14.trans hO15)); have hV15 := hOv15.blk (Blk.new w6 _ _) id; have j0 := hV15.cell 0 _ rfl; have j1 := hV15.cell 1 _ rfl; have j2 := hV15.cell 2 _ rfl; have hOz := hOf.trans hO15; clear hV15)
    | (go_at_call 17; refine (alive26_c _).mono ?_; rintro e w17 ⟨rfl, hO17⟩))
  go_ret
  exact ⟨rfl, hOz.trans hO17⟩
set_option maxRecDepth 100000 in
set_option maxHeartbeats 4000000 in
theorem settles_diff (v1 v2 : Value) (l m o p : List Nat) (b : Bool) (k : Nat) (w : World) (hT : Tab w) (hR1 : Rd w v1 (u64s l)) (hR2 : Rd w v2 (u64s m)) (hl : l.length ≤ 30) (hm : m.length ≤ 30) (hx1 : ∀ y ∈ l, W64 y) (hx2 : ∀ y ∈ m, W64 y) (hk : 1 ≤ k) (hk2 : k ≤ 1365)
    (hF : peelF k (lessC (makeC (3 * k) l) (makeC (3 * k) m)) = (b, o, p)) (hb : b = true) (hB : byR b o p l = (true, o, p)) (ho : sOut o l = []) (hp : sIn p l = []) (hs : sameL (rise l) (rise m) = false) (hsum : (sOut l m).length + (sOut m l).length ≠ 1) :
    Calls Tryd.prog 4 #[v1, v2, .int .i64 ((3 * k : Nat) : Int)] w fun e w' => e = .returned (.bool true) ∧ Only No w w' := by
  have hsl1 := sOut_len l m
  have hsl2 := sOut_len m l
  have hrl := rise_len l
  have hrm := rise_len m
  have HBL := Lib.hid (fun (W : World) (hO : Only No w W) => ByList_c v1 v2 l m W (hR1.no hO) (hR2.no hO) (by omega) (by omega) hx1 hx2)
  have HSt := Lib.hid (fun (u1 u2 : Value) (W : World) (hO : Only No w W) g1 g2 => Settle_c v1 u1 u2 l (sOut l m) (sOut m l) W (hR1.no hO) g1 g2 (by omega) (by omega) (by omega) hx1 (w64_sOut hx1) (w64_sOut hx2))
  rw [settle_list] at HSt
  have HRm := Lib.hid (fun (W : World) (hO : Only No w W) => Rise_c v2 m W (hR2.no hO) (by omega))
  have HRl := Lib.hid (fun (W : World) (hO : Only No w W) => Rise_c v1 l W (hR1.no hO) (by omega))
  have HU1 := Lib.hid (fun (x y : Value) (W : World) g1 g2 => same_u (rise m) (by omega) x y W g1 g2)
  have HUx := Lib.hid (fun (x y : Value) (W : World) g1 g2 => calls_only_of_drew' (Same_c x y (rise l) (rise m) W g1 g2 (by omega) (by omega)))
  have HSd := Lib.hid (fun (W : World) (hO : Only No w W) => rSides2_c v1 v2 l m W (hR1.no hO) (hR2.no hO) (by omega) (by omega))
  have HK1 := Lib.hid (fun (W : World) (hO : Only No w W) => rskMake_c v1 l W (hR1.no hO) (by omega) hx1)
  have HNd := Lib.hid (fun (v : Value) (W : World) (hO : Only No w W) g => Need_c v1 v l W (hT.no hO) (hR1.no hO) g (by omega) hx1)
  have g1 : ¬ (30 : Int) < (l.length : Int) := by omega
  have g2 : ¬ (30 : Int) < (m.length : Int) := by omega
  have hTl : (makeC (3 * k) m).length = 3 * k := makeC_len _ _
  have hokT := makeC_ok (m := 3 * k) hx2
  have hokD := lessC_ok (makeC_ok (m := 3 * k) hx1) hokT
  have hDl : (lessC (makeC (3 * k) l) (makeC (3 * k) m)).length = 3 * k := by rw [lessC_len (by rw [makeC_len, makeC_len]), makeC_len]
  obtain ⟨hol, hxo, hxp⟩ := peelF_len hokD hF
  rw [hDl] at hol
  have HMk := Lib.hid (fun (W : World) (hO : Only No w W) => rMake_c k v2 m W hk hk2 (hR2.no hO) (by omega) hx2)
  have HBC := Lib.hid (fun (a : Option Addr) (c : Nat) (W : World) (hO : Only No w W) (hg : RdN 3 W (.slice a (3 * k) c) (3 * k) (fl encC (makeC (3 * k) m))) => ByCells_c v1 (.slice a (3 * k) c) l o p b (3 * k) W a c rfl (hR1.no hO) (by omega) (by omega) (by omega) hx1 hxo hxp
    (fun tb W' hO' hB => by
      have := findC_yes v1 (.slice a (3 * k) c) l (makeC (3 * k) m) k tb W' hB ((hR1.no hO).no hO') (by rw [hTl]; exact hg.no hO') hTl hk hk2 hokT (by omega) hx1
      rw [hF] at this
      exact this))
  rw [hB] at HBC
  have hX := settle_cells hx1 hx2 (by rw [hF, hb]) ho hp
  have hxl : (rise (sOut l o ++ p)).length ≤ 1000000 := by have h1 := rise_len (sOut l o ++ p); rw [List.length_append] at h1; have h2 := sOut_len l o; omega
  have hxw : ∀ x ∈ rise (sOut l o ++ p), W64 x := fun x hx => by
    rw [mem_rise, List.mem_append] at hx
    rcases hx with hx | hx
    · exact w64_sOut hx1 x hx
    · exact hxp x hx
  have HSv := Lib.hid (fun (u1 u2 : Value) (W : World) (hO : Only No w W) g1 g2 => Settle_c v1 u1 u2 l o p W (hR1.no hO) g1 g2 (by omega) (by omega) (by omega) hx1 hxo hxp)
  have HMx := Lib.hid (fun (v : Value) (W : World) g => rMake_c k v (rise (sOut l o ++ p)) W hk hk2 g hxl hxw)
  rw [hX] at HMx
  have HSc := Lib.hid (fun (x y : Value) (W : World) g1 g2 => SameC_c x y (makeC (3 * k) m) (makeC (3 * k) m) W g1 g2 (by omega) (by omega))
  rw [sameC_self, hTl] at HSc
  obtain ⟨n, hn⟩ : ∃ n : Nat, n = 3 * k := ⟨_, rfl⟩
  rw [← hn] at HMk HBC HMx HSc ⊢
  have hnb : n ≤ 5000 := by omega
  have hob : o.length + p.length ≤ 5000 := by omega
  rw [hs] at HUx
  have hne : ((((sOut l m).length : Nat) : Int) + (((sOut m l).length : Nat) : Int) != 1) = true := by simp; omega
  obtain ⟨a1, c1, rfl, -⟩ := hR1.cases
  obtain ⟨a2, c2, rfl, -⟩ := hR2.cases
  simp only [u64s_len] at *
  clear hT hR1 hR2 hx1 hx2 hTl hokT hokD hDl hol hxo hxp hF hb hB hs hn hk hk2 hX hxl hxw ho hp
  clear hsum
  generalize rise (sOut l o ++ p) = X at *
  generalize rise m = rm at *
  generalize rise l = rl at *
  generalize makeC n m = T at *
  generalize sOut l m = P at *
  generalize sOut m l = Q at *
  go_enter Tryd.func4, Tryd.ntmps4
  go_wp2_with (first
    | (go_at_call 20; refine (HBL.out _ (Only.refl _ _)).mono ?_; rintro e w1 ⟨q1, q2, rfl, rq1, rq2, hO1⟩; obtain ⟨qa, qc, rfl, -⟩ := rq1.cases; obtain ⟨qb, qd, rfl, -⟩ := rq2.cases; simp only [u64s_len] at rq1 rq2 ⊢)
    | (go_at_call 19; ((with_reducible refine (HSt.out _ _ _ hO1 rq1 rq2).mono ?_); rintro e w2 ⟨z1, rfl, rz1, hO2⟩))
    | (go_at_call 21; ((with_reducible refine (HRm.out _ (hO1.trans hO2)).mono ?_); rintro e w3 ⟨z2, rfl, rz2, hO3⟩))
    | (go_at_call 18; ((with_reducible refine (HU1.out _ _ _ (rz1.no hO3) rz2).mono ?_); rintro e w4 ⟨rfl, hO4⟩; have hOa := (hO1.trans hO2).trans (hO3.trans hO4)))
    | (go_at_call 22; ((with_reducible refine (HMk.out _ hOa).mono ?_); rintro e w5 ⟨t, rfl, ht, hO5⟩; obtain ⟨ta, tc, rfl, -⟩ := row_len ht; have HTr := Lib.hid (RdN.of_row ht); clear ht))
    | (go_at_call 23; refine (HBC.out _ _ _ (hOa.trans hO5) HTr.out).mono ?_; rintro e w6 ⟨p1, p2, rfl, rp1, rp2, hO6⟩; obtain ⟨pa, pc, rfl, -⟩ := rp1.cases; obtain ⟨pb, pd, rfl, -⟩ := rp2.cases; simp only [u64s_len] at rp1 rp2 ⊢; have hOb := (hOa.trans hO5).trans hO6)
    | (go_at_call 19; ((with_reducible refine (HSv.out _ _ _ (hOb.alloc _) (rp1.no ((Only.refl No w6).alloc _)) (rp2.no ((Only.refl No w6).alloc _))).mono ?_); rintro e w7 ⟨z3, rfl, rz3, hO7⟩))
    | (go_at_call 22; ((with_reducible refine (HMx.out _ _ rz3).mono ?_); rintro e w8 ⟨t2, rfl, ht2, hO8⟩; obtain ⟨tb, td, rfl, -⟩ := row_len ht2; have HTx := Lib.hid (RdN.of_row ht2); clear ht2; have hOv := hO7.trans hO8))
    | (go_at_call 24; ((with_reducible refine (HSc.out _ _ _ HTx.out (HTr.out.no ((hO6.alloc _).trans hOv))).mono ?_); rintro e w9 ⟨rfl, hO9⟩; have hOv9 := hOv.trans hO9; have hOc0 := (hOb.alloc _).trans hOv9))
    | (go_at_call 21; ((with_reducible refine (HRl.out _ hOc0).mono ?_); rintro e w10 ⟨y1, rfl, ry1, hO10⟩; have hOc := hOc0.trans hO10))
    | (go_at_call 21; ((with_reducible refine (HRm.out _ hOc).mono ?_); rintro e w11 ⟨y2, rfl, ry2, hO11⟩))
    | (go_at_call 18; ((with_reducible refine (HUx.out _ _ _ (ry1.no hO11) ry2).mono ?_); rintro e w12 ⟨rfl, hO12⟩; have hOd := (hOc.trans hO11).trans hO12; have hOv12 := hOv9.trans (hO10.trans (hO11.trans hO12)); have hV12 := hOv12.blk (Blk.new w6 _ _) id; have k0 := hV12.cell 0 _ rfl; have k1 := hV12.cell 1 _ rfl; have k2 := hV12.cell 2 _ rfl; clear hV12))
    | (go_at_call 9; refine (HK1.out _ hOd).mono ?_; rintro e w13 ⟨s, rfl, hs13, hO13⟩)
    | (go_at_call 25; refine (HNd.out _ _ (hOd.trans hO13) hs13).mono ?_; rintro e w14 ⟨rfl, hO14⟩; have hOf := (hOd.trans hO13).trans hO14)
    | (go_at_call 26; refine (HSd.out _ hOf).mono ?_; rintro e w15 ⟨x1, x2, rfl, rx1, rx2, hO15⟩; obtain ⟨xa, xc, rfl, -⟩ := rx1.cases; obtain ⟨xb, xd, rfl, -⟩ := rx2.cases; simp only [u64s_len] at rx1 rx2 ⊢; have hOv15 := hOv12.trans (hO13.trans (hO14.trans hO15)); have hV15 := hOv15.blk (Blk.new w6 _ _) id; have j0 := hV15.cell 0 _ rfl; have j1 := hV15.cell 1 _ rfl; have j2 := hV15.cell 2 _ rfl; have hOz := hOf.trans hO15; clear hV15)
    | (go_at_call 17; refine (alive26_c _).mono ?_; rintro e w17 ⟨rfl, hO17⟩))
  go_ret
  exact ⟨rfl, hOz.trans hO17⟩
set_option maxRecDepth 100000 in
set_option maxHeartbeats 4000000 in
theorem settles_one (v1 v2 : Value) (l m o p : List Nat) (b : Bool) (k : Nat) (w : World) (hT : Tab w) (hR1 : Rd w v1 (u64s l)) (hR2 : Rd w v2 (u64s m)) (hl : l.length ≤ 30) (hm : m.length ≤ 30) (hx1 : ∀ y ∈ l, W64 y) (hx2 : ∀ y ∈ m, W64 y) (hk : 1 ≤ k) (hk2 : k ≤ 1365)
    (hF : peelF k (lessC (makeC (3 * k) l) (makeC (3 * k) m)) = (b, o, p)) (hb : b = true) (hB : byR b o p l = (true, o, p)) (ho : sOut o l = []) (hp : sIn p l = []) (hs : sameL (rise l) (rise m) = false) (hsum : (sOut l m).length + (sOut m l).length = 1) (ho1 : o = sOut l m) (hp1 : p = sOut m l) :
    Calls Tryd.prog 4 #[v1, v2, .int .i64 ((3 * k : Nat) : Int)] w fun e w' => e = .returned (.bool true) ∧ Only No w w' := by
  have hsl1 := sOut_len l m
  have hsl2 := sOut_len m l
  have hrl := rise_len l
  have hrm := rise_len m
  have HBL := Lib.hid (fun (W : World) (hO : Only No w W) => ByList_c v1 v2 l m W (hR1.no hO) (hR2.no hO) (by omega) (by omega) hx1 hx2)
  have HSt := Lib.hid (fun (u1 u2 : Value) (W : World) (hO : Only No w W) g1 g2 => Settle_c v1 u1 u2 l (sOut l m) (sOut m l) W (hR1.no hO) g1 g2 (by omega) (by omega) (by omega) hx1 (w64_sOut hx1) (w64_sOut hx2))
  rw [settle_list] at HSt
  have HRm := Lib.hid (fun (W : World) (hO : Only No w W) => Rise_c v2 m W (hR2.no hO) (by omega))
  have HRl := Lib.hid (fun (W : World) (hO : Only No w W) => Rise_c v1 l W (hR1.no hO) (by omega))
  have HU1 := Lib.hid (fun (x y : Value) (W : World) g1 g2 => same_u (rise m) (by omega) x y W g1 g2)
  have HUx := Lib.hid (fun (x y : Value) (W : World) g1 g2 => calls_only_of_drew' (Same_c x y (rise l) (rise m) W g1 g2 (by omega) (by omega)))
  have HSd := Lib.hid (fun (W : World) (hO : Only No w W) => rSides2_c v1 v2 l m W (hR1.no hO) (hR2.no hO) (by omega) (by omega))
  have HK1 := Lib.hid (fun (W : World) (hO : Only No w W) => rskMake_c v1 l W (hR1.no hO) (by omega) hx1)
  have HNd := Lib.hid (fun (v : Value) (W : World) (hO : Only No w W) g => Need_c v1 v l W (hT.no hO) (hR1.no hO) g (by omega) hx1)
  have g1 : ¬ (30 : Int) < (l.length : Int) := by omega
  have g2 : ¬ (30 : Int) < (m.length : Int) := by omega
  have hTl : (makeC (3 * k) m).length = 3 * k := makeC_len _ _
  have hokT := makeC_ok (m := 3 * k) hx2
  have hokD := lessC_ok (makeC_ok (m := 3 * k) hx1) hokT
  have hDl : (lessC (makeC (3 * k) l) (makeC (3 * k) m)).length = 3 * k := by rw [lessC_len (by rw [makeC_len, makeC_len]), makeC_len]
  obtain ⟨hol, hxo, hxp⟩ := peelF_len hokD hF
  rw [hDl] at hol
  have HMk := Lib.hid (fun (W : World) (hO : Only No w W) => rMake_c k v2 m W hk hk2 (hR2.no hO) (by omega) hx2)
  have HBC := Lib.hid (fun (a : Option Addr) (c : Nat) (W : World) (hO : Only No w W) (hg : RdN 3 W (.slice a (3 * k) c) (3 * k) (fl encC (makeC (3 * k) m))) => ByCells_c v1 (.slice a (3 * k) c) l o p b (3 * k) W a c rfl (hR1.no hO) (by omega) (by omega) (by omega) hx1 hxo hxp
    (fun tb W' hO' hB => by
      have := findC_yes v1 (.slice a (3 * k) c) l (makeC (3 * k) m) k tb W' hB ((hR1.no hO).no hO') (by rw [hTl]; exact hg.no hO') hTl hk hk2 hokT (by omega) hx1
      rw [hF] at this
      exact this))
  rw [hB] at HBC
  have hX := settle_cells hx1 hx2 (by rw [hF, hb]) ho hp
  have hxl : (rise (sOut l o ++ p)).length ≤ 1000000 := by have h1 := rise_len (sOut l o ++ p); rw [List.length_append] at h1; have h2 := sOut_len l o; omega
  have hxw : ∀ x ∈ rise (sOut l o ++ p), W64 x := fun x hx => by
    rw [mem_rise, List.mem_append] at hx
    rcases hx with hx | hx
    · exact w64_sOut hx1 x hx
    · exact hxp x hx
  have HSv := Lib.hid (fun (u1 u2 : Value) (W : World) (hO : Only No w W) g1 g2 => Settle_c v1 u1 u2 l o p W (hR1.no hO) g1 g2 (by omega) (by omega) (by omega) hx1 hxo hxp)
  have HMx := Lib.hid (fun (v : Value) (W : World) g => rMake_c k v (rise (sOut l o ++ p)) W hk hk2 g hxl hxw)
  rw [hX] at HMx
  have HSc := Lib.hid (fun (x y : Value) (W : World) g1 g2 => SameC_c x y (makeC (3 * k) m) (makeC (3 * k) m) W g1 g2 (by omega) (by omega))
  rw [sameC_self, hTl] at HSc
  obtain ⟨n, hn⟩ : ∃ n : Nat, n = 3 * k := ⟨_, rfl⟩
  rw [← hn] at HMk HBC HMx HSc ⊢
  have hnb : n ≤ 5000 := by omega
  have hob : o.length + p.length ≤ 5000 := by omega
  rw [hs] at HUx
  have HSV := Lib.hid (fun (u1 u2 x1 x2 : Value) (W : World) h1 h2 h3 h4 => rSameV_c u1 u2 x1 x2 o p W h1 h2 h3 h4 (by rw [ho1]; omega) (by rw [hp1]; omega))
  simp only [← ho1, ← hp1] at *
  have hne : (((o.length : Nat) : Int) + ((p.length : Nat) : Int) != 1) = false := by simp; omega
  obtain ⟨a1, c1, rfl, -⟩ := hR1.cases
  obtain ⟨a2, c2, rfl, -⟩ := hR2.cases
  simp only [u64s_len] at *
  clear hT hR1 hR2 hx1 hx2 hTl hokT hokD hDl hol hxo hxp hF hb hB hs hn hk hk2 hX hxl hxw ho hp
  clear hsum
  generalize rise (sOut l o ++ p) = X at *
  generalize rise m = rm at *
  generalize rise l = rl at *
  generalize makeC n m = T at *
  go_enter Tryd.func4, Tryd.ntmps4
  go_wp2_with (first
    | (go_at_call 20; refine (HBL.out _ (Only.refl _ _)).mono ?_; rintro e w1 ⟨q1, q2, rfl, rq1, rq2, hO1⟩; obtain ⟨qa, qc, rfl, -⟩ := rq1.cases; obtain ⟨qb, qd, rfl, -⟩ := rq2.cases; simp only [u64s_len] at rq1 rq2 ⊢)
    | (go_at_call 19; ((with_reducible refine (HSt.out _ _ _ hO1 rq1 rq2).mono ?_); rintro e w2 ⟨z1, rfl, rz1, hO2⟩))
    | (go_at_call 21; ((with_reducible refine (HRm.out _ (hO1.trans hO2)).mono ?_); rintro e w3 ⟨z2, rfl, rz2, hO3⟩))
    | (go_at_call 18; ((with_reducible refine (HU1.out _ _ _ (rz1.no hO3) rz2).mono ?_); rintro e w4 ⟨rfl, hO4⟩; have hOa := (hO1.trans hO2).trans (hO3.trans hO4)))
    | (go_at_call 22; ((with_reducible refine (HMk.out _ hOa).mono ?_); rintro e w5 ⟨t, rfl, ht, hO5⟩; obtain ⟨ta, tc, rfl, -⟩ := row_len ht; have HTr := Lib.hid (RdN.of_row ht); clear ht))
    | (go_at_call 23; refine (HBC.out _ _ _ (hOa.trans hO5) HTr.out).mono ?_; rintro e w6 ⟨p1, p2, rfl, rp1, rp2, hO6⟩; obtain ⟨pa, pc, rfl, -⟩ := rp1.cases; obtain ⟨pb, pd, rfl, -⟩ := rp2.cases; simp only [u64s_len] at rp1 rp2 ⊢; have hOb := (hOa.trans hO5).trans hO6)
    | (go_at_call 19; ((with_reducible refine (HSv.out _ _ _ (hOb.alloc _) (rp1.no ((Only.refl No w6).alloc _)) (rp2.no ((Only.refl No w6).alloc _))).mono ?_); rintro e w7 ⟨z3, rfl, rz3, hO7⟩))
    | (go_at_call 22; ((with_reducible refine (HMx.out _ _ rz3).mono ?_); rintro e w8 ⟨t2, rfl, ht2, hO8⟩; obtain ⟨tb, td, rfl, -⟩ := row_len ht2; have HTx := Lib.hid (RdN.of_row ht2); clear ht2; have hOv := hO7.trans hO8))
    | (go_at_call 24; ((with_reducible refine (HSc.out _ _ _ HTx.out (HTr.out.no ((hO6.alloc _).trans hOv))).mono ?_); rintro e w9 ⟨rfl, hO9⟩; have hOv9 := hOv.trans hO9; have hOc0 := (hOb.alloc _).trans hOv9))
    | (go_at_call 21; ((with_reducible refine (HRl.out _ hOc0).mono ?_); rintro e w10 ⟨y1, rfl, ry1, hO10⟩; have hOc := hOc0.trans hO10))
    | (go_at_call 21; ((with_reducible refine (HRm.out _ hOc).mono ?_); rintro e w11 ⟨y2, rfl, ry2, hO11⟩))
    | (go_at_call 18; ((with_reducible refine (HUx.out _ _ _ (ry1.no hO11) ry2).mono ?_); rintro e w12 ⟨rfl, hO12⟩; have hOd := (hOc.trans hO11).trans hO12; have hOv12 := hOv9.trans (hO10.trans (hO11.trans hO12)); have hV12 := hOv12.blk (Blk.new w6 _ _) id; have k0 := hV12.cell 0 _ rfl; have k1 := hV12.cell 1 _ rfl; have k2 := hV12.cell 2 _ rfl; clear hV12))
    | (go_at_call 9; refine (HK1.out _ hOd).mono ?_; rintro e w13 ⟨s, rfl, hs13, hO13⟩)
    | (go_at_call 25; refine (HNd.out _ _ (hOd.trans hO13) hs13).mono ?_; rintro e w14 ⟨rfl, hO14⟩; have hOf := (hOd.trans hO13).trans hO14)
    | (go_at_call 26; refine (HSd.out _ hOf).mono ?_; rintro e w15 ⟨x1, x2, rfl, rx1, rx2, hO15⟩; obtain ⟨xa, xc, rfl, -⟩ := rx1.cases; obtain ⟨xb, xd, rfl, -⟩ := rx2.cases; simp only [u64s_len] at rx1 rx2 ⊢; have hOv15 := hOv12.trans (hO13.trans (hO14.trans hO15)); have hV15 := hOv15.blk (Blk.new w6 _ _) id; have j0 := hV15.cell 0 _ rfl; have j1 := hV15.cell 1 _ rfl; have j2 := hV15.cell 2 _ rfl; have hOz := hOf.trans hO15; clear hV15)
    | (go_at_call 27; refine (HSV.out _ _ _ _ _ (rp1.no ((Only.refl No w6).alloc _ |>.trans hOv15)) (rp2.no ((Only.refl No w6).alloc _ |>.trans hOv15)) rx1 rx2).mono ?_; rintro e w16 ⟨rfl, hO16⟩)
    | (go_at_call 17; refine (alive26_c _).mono ?_; rintro e w17 ⟨rfl, hO17⟩))
  go_ret
  exact ⟨rfl, (hOz.trans hO16).trans hO17⟩
theorem sOut_nil_of {l m : List Nat} (h : rise l = rise m) : sOut l m = [] := List.eq_nil_iff_forall_not_mem.2 (fun x hx => by
  rw [mem_sOut] at hx
  have : x ∈ rise m := by rw [← h]; exact mem_rise.2 hx.1
  exact hx.2 (mem_rise.1 this))
theorem settles_may (v1 v2 : Value) (l m : List Nat) (k : Nat) (w : World) (hT : Tab w) (hR1 : Rd w v1 (u64s l)) (hR2 : Rd w v2 (u64s m)) (hl : l.length ≤ 30) (hm : m.length ≤ 30) (hx1 : ∀ y ∈ l, W64 y) (hx2 : ∀ y ∈ m, W64 y) (hk : 1 ≤ k) (hk2 : k ≤ 1365) :
    Calls Tryd.prog 4 #[v1, v2, .int .i64 ((3 * k : Nat) : Int)] w fun e w' => e = .returned (.bool true) ∧ Only No w w' := by
  obtain ⟨b, o, p, hF⟩ : ∃ b o p, peelF k (lessC (makeC (3 * k) l) (makeC (3 * k) m)) = (b, o, p) := ⟨_, _, _, rfl⟩
  cases hby : (byR b o p l).1 with
  | false =>
    refine settles_false v1 v2 l m o p b k w hT hR1 hR2 hl hm hx1 hx2 hk hk2 hF (byR_no hby) (decide_eq_false (fun hr => ?_)) (fun hs => ?_)
    · have h := hF.symm.trans (peel_same (k := k) hr)
      simp only [Prod.mk.injEq] at h
      obtain ⟨rfl, rfl, rfl⟩ := h
      rw [byR_none] at hby
      cases hby
    · have h := hF.symm.trans (peelF_single hk hx1 hx2 hs)
      simp only [Prod.mk.injEq] at h
      obtain ⟨rfl, rfl, rfl⟩ := h
      rw [byR_sides] at hby
      cases hby
  | true =>
    obtain ⟨hb, ho, hp, hB⟩ := byR_ok hby
    by_cases hr : rise l = rise m
    · have h := hF.symm.trans (peel_same (k := k) hr)
      simp only [Prod.mk.injEq] at h
      refine settles_same v1 v2 l m o p b k w hT hR1 hR2 hl hm hx1 hx2 hk hk2 hF hb hB ho hp (decide_eq_true hr) (by rw [h.2.1, h.2.2]; rfl) (by rw [sOut_nil_of hr, sOut_nil_of hr.symm]; simp)
    · by_cases hs : (sOut l m).length + (sOut m l).length = 1
      · have h := hF.symm.trans (peelF_single hk hx1 hx2 hs)
        simp only [Prod.mk.injEq] at h
        exact settles_one v1 v2 l m o p b k w hT hR1 hR2 hl hm hx1 hx2 hk hk2 hF hb hB ho hp (decide_eq_false hr) hs h.2.1 h.2.2
      · exact settles_diff v1 v2 l m o p b k w hT hR1 hR2 hl hm hx1 hx2 hk hk2 hF hb hB ho hp (decide_eq_false hr) hs
set_option maxRecDepth 100000 in
theorem settles_many (a1 a2 : Option Addr) (l m : List Nat) (c1 c2 : Nat) (n : Int) (w : World) (h : 30 < l.length ∨ 30 < m.length) :
    Calls Tryd.prog 4 #[.slice a1 l.length c1, .slice a2 m.length c2, .int .i64 n] w fun e w' => e = .returned (.bool true) ∧ Only No w w' := by
  have hl : l.length ≤ 30 ∧ 30 < m.length ∨ 30 < l.length := by omega
  rcases hl with ⟨h1, h2⟩ | h1
  · have g1 : ¬ (30 : Int) < (l.length : Int) := by omega
    have g2 : (30 : Int) < (m.length : Int) := by omega
    go_enter Tryd.func4, Tryd.ntmps4
    go_wp2_with (go_at_call 17; refine (alive26_c _).mono ?_; rintro e w4 ⟨rfl, hO4⟩)
    go_ret
    exact ⟨rfl, hO4⟩
  · have g1 : (30 : Int) < (l.length : Int) := by omega
    go_enter Tryd.func4, Tryd.ntmps4
    go_wp2_with (go_at_call 17; refine (alive26_c _).mono ?_; rintro e w4 ⟨rfl, hO4⟩)
    go_ret
    exact ⟨rfl, hO4⟩

set_option maxRecDepth 100000 in
theorem reconSettles_lifted (os : Os) (started : os.Started) (H : Type) (enc : TypeId × Value → H) :
    ReturnsInHanded {} Tryd.checked os 4 .any (fun w args => (Rows.reconSettlesSpec.pre enc Tryd.prog Tryd.f4 [] false w args ∧ laidMetH Tryd.prog laidTab w) ∧ sizedMet enc Tryd.prog Tryd.f4 (OpenSpec.ofChange Rows.reconSettlesSpec) false w args) (Rows.reconSettlesSpec.post enc Tryd.prog Tryd.f4 false true false false) := by
  refine returnsInHanded_of_change_and (C := Tryd.checked) (X := fun w _ => laidMetH Tryd.prog laidTab w) (fun _ _ _ hh h => h.of_heap hh) tryOwn started (by kernel_rfl) Tryd.func4
    (ChangeSpec.witness_shaped (enc := enc) (C := Tryd.checked) (os := os) (X := fun w _ => laidMetH Tryd.prog laidTab w) false (World.doorLaid Tryd.prog 14 os) #[.slice none 0 0, .slice none 0 0, .int .i64 0] 8 rfl (World.shaped_of_RefB (by kernel_rfl) (by kernel_rfl)) (by kernel_rfl) (by kernel_rfl) (by kernel_rfl) (door_met os _)) ?_
  intro W base args ds gs before hval0 hW _ _ hL _
  have hT := of_laid hL
  have hval : ∀ (j : Nat) t v, Tryd.f4.params[j]? = some t → args[j]? = some v → Value.okWide Tryd.prog W .any base t v := hval0
  have hW' := hW
  have hlt := hW.lt
  obtain ⟨p, q, hA0, hV, rfl, hfz, hnd⟩ := hW
  have hA : DataW.TrodAll enc Tryd.prog W 0 (fun _ => true) true Tryd.f4.params.toList args.toList ds p := hA0
  rw [Tryd.params4] at hA hval
  obtain ⟨v0, vs0, d0, ds0, p0, q0, hargs, rfl, rfl, h0, r0⟩ := trodAll_cons hA
  obtain ⟨v1, vs1, d1, ds1, p1, q1, rfl, rfl, rfl, h1, r1⟩ := trodAll_cons r0
  obtain ⟨v2, vs2, d2, ds2, p2, q2, rfl, rfl, rfl, h2, r2⟩ := trodAll_cons r1
  obtain ⟨rfl, rfl, rfl⟩ := trodAll_nil r2
  obtain rfl : args = #[v0, v1, v2] := by cases args; simp_all
  have hfn : ∀ (gs : List (DataW H)), gs = [] → (Rows.reconSettlesSpec.fn H ([d0, d1, d2] ++ gs)).results = [.lit (.bool true)] ∧ (Rows.reconSettlesSpec.fn H ([d0, d1, d2] ++ gs)).args = [d0, d1, d2] := by
    rintro gs rfl
    exact ⟨rfl, rfl⟩
  have hvr : (Rows.reconSettlesSpec.fn H ([d0, d1, d2] ++ gs)).vars = [] := by
    obtain ⟨rfl, rfl⟩ := trodVars_none hV
    rfl
  have fin := fun e W' he hb => law_ends (e := e) (W' := W') (f := Tryd.f4) (by kernel_rfl) rfl (by kernel_rfl) hfn hvr hW' he hb
  have w0 := hval 0 22 v0 rfl rfl
  have w1 := hval 1 22 v1 rfl rfl
  have w2 := hval 2 3 v2 rfl rfl
  clear hval hval0 hA hA0 hW' hfn hvr hL
  obtain ⟨a1, l, c1, rfl, hR1, hx1⟩ := open_u64s w0 h0
  obtain ⟨a2, m, c2, rfl, hR2, hx2⟩ := open_u64s w1 h1
  obtain ⟨n, rfl, -, -, -⟩ := open_int Tryd.underlying3 w2 h2
  by_cases hs : l.length ≤ 30 ∧ m.length ≤ 30
  · by_cases hn : May n
    · obtain ⟨k, hk, hk2, rfl⟩ := may_k hn
      exact (settles_may _ _ l m k W hT hR1 hR2 hs.1 hs.2 hx1 hx2 hk hk2).mono fun e W' ⟨he, hg⟩ => fin e W' he hg.below_no
    · exact (settles_no _ _ l m n W hT hR1 hR2 hs.1 hs.2 hx1 hx2 hn).mono fun e W' ⟨he, hg⟩ => fin e W' he hg.below_no
  · exact (settles_many a1 a2 l m c1 c2 n W (by omega)).mono fun e W' ⟨he, hg⟩ => fin e W' he hg.below_no
theorem reconSettles_holds : Rows.ReconSettlesSaid :=
  OpenClaim.holds_of_wide 4 Tryd.f4 rfl rfl rfl rfl rfl rfl rfl ⟨rfl, rfl, rfl, rfl, rfl⟩ rfl rfl rfl rfl rfl (by kernel_rfl) Tryd.func4 (by kernel_rfl)
    (of_decide_eq_true (by kernel_rfl)) (by unfold Func.isWrapper; first | (rw [if_pos (by decide +kernel)]; kernel_rfl) | (rw [if_neg (by decide +kernel)]; exact ⟨rfl, rfl⟩))
    (fun os started H enc _ => reconSettles_lifted os started H enc)
#print axioms reconSettles_holds
set_option maxRecDepth 100000 in
theorem reconSettles_card : Rows.ReconSettlesCardSaid :=
  Claim7.holds_tied_plain_at .later [] [.data] true (true, "23faf05cd3a0162f7bd37ced172f050f8855bae05e7550290049568bf0e399b2") false reconSettles_holds (fun _ h => by cases h) (by kernel_rfl) (fun _ h => by cases h) reconSettles_row_tie rfl ⟨rfl, rfl⟩ (by kernel_rfl) rfl
    (fun f fn hf hfn => by
      obtain rfl : f = 4 := Option.some.inj ((show Tryd.prog.funcNamed "handcart/handcartlaw26.ReconSettles" = some 4 by kernel_rfl).symm.trans hf) |>.symm
      obtain rfl : fn = Tryd.f4 := (Option.some.inj (Tryd.func4.symm.trans hfn)).symm
      exact ⟨by kernel_rfl, fun j t ht => by
        rw [Tryd.params4] at ht
        have hm : t ∈ [22, 22, 3] := by simpa using Array.mem_of_getElem? ht
        have hall : ([22, 22, 3].all fun u => !Tryd.prog.wantsStandIn u) = true := by kernel_rfl
        exact (show Tryd.prog.wantsStandIn t = false by simpa using List.all_eq_true.1 hall t hm)⟩)
    (by kernel_rfl)
#print axioms reconSettles_card
end Go.Proofs.YtdcinifcpaldiaaDoor
