/- The document's bytes: Same, Put, Var, Get, Unvar. No statement is proved here. -/
import Derived.Test.YtdcinifcpaldiaaDoorUnvar
import Derived.Test.YtdcinifcpaldiaaDoorApp
import Derived.Test.YtdcinifcpaldiaaDoorBitsX
import Derived.Test.YtdcinifcpaldiaaDoorBunUp
import Derived.Test.YtdcinifcpaldiaaDoorConcat
import Derived.OwnWalk
namespace Go.Proofs.YtdcinifcpaldiaaDoor
open Go.RowKit

def sameB (a b : List Nat) : Bool := decide (a = b)
theorem sameB_self (a : List Nat) : sameB a a = true := decide_eq_true rfl
theorem same_len8 {a b : List Nat} (h : a.length ≠ b.length) : sameB a b = false := decide_eq_false (fun e => h (by rw [e]))
set_option maxRecDepth 100000 in
set_option maxHeartbeats 1000000 in
theorem Same8_c (v1 v2 : Value) (l m : List Nat) (w : World) (hR1 : Rd w v1 (u8s l)) (hR2 : Rd w v2 (u8s m)) (hl : l.length ≤ 1000000) (hm : m.length ≤ 1000000) :
    Calls Tryd.prog 16 #[v1, v2] w fun e w' => e = .returned (.bool (sameB l m)) ∧ ∃ n, w.drewN n = w' := by
  obtain ⟨a1, cap1, rfl, hcap1⟩ := hR1.cases
  obtain ⟨a2, cap2, rfl, hcap2⟩ := hR2.cases
  rw [u8s_len] at *
  obtain ⟨r, hr⟩ : ∃ r : Bool, r = sameB l m := ⟨_, rfl⟩
  rw [← hr]
  have HR := Lib.hid hr
  clear hr
  by_cases hne : l.length = m.length
  · go_enter Tryd.func16, Tryd.ntmps16
    have HN := Lib.hid hne
    rw [hne]
    clear hne
    go_wp2
    go_loopw [5] (fun v5 wr => ∃ i n : Nat, i ≤ m.length ∧ v5 = .int .i64 i ∧ l.take i = m.take i ∧ wr = w.drewN n) (fun v5 _ => m.length - (intOf v5).toNat)
    case atStart => exact ⟨0, 0, by omega, rfl, by simp, rfl⟩
    case round =>
      obtain ⟨i, n, hi, rfl, hp, rfl⟩ := hrel
      by_cases hlt : i < m.length
      · have hlt1 : i < l.length := by rw [HN.out]; exact hlt
        obtain ⟨-, b, off, rfl, hbl, hcell⟩ := hR1.at (by rw [u8s_len]; omega)
        obtain ⟨-, b2, off2, rfl, hbl2, hcell2⟩ := hR2.at (by rw [u8s_len]; omega)
        have hc1 := hcell i _ (u8s_get hlt1)
        have hc2 := hcell2 i _ (u8s_get hlt)
        have ht1 := List.take_succ_eq_append_getElem hlt1
        have ht2 := List.take_succ_eq_append_getElem hlt
        have hno : l[i] ≠ m[i] → sameB l m = false := fun h => decide_eq_false (fun e => h (by simp [e]))
        generalize l[i] = x at *
        generalize m[i] = y at *
        have HS := Lib.hid (And.intro hp (And.intro ht1 (And.intro ht2 hno)))
        clear hcell hcell2 ht1 ht2 hp hno hlt1
        have hi0 : (0 : Int) ≤ (i : Int) := by omega
        have him : (i : Int) < (m.length : Int) := by omega
        by_cases hxy : x = y
        · subst hxy
          go_wp2_with fail
          go_quiet (fail)
          go_wp2
          go_roundw
          case rel => exact ⟨i + 1, _, by omega, by go_num, by rw [HS.out.2.1, HS.out.2.2.1, HS.out.1], rfl⟩
          case measure => simp [intOf]; omega
        · have hxy' : ((x : Int) != (y : Int)) = true := by simp; omega
          go_wp2_with fail
          go_quiet (fail)
          go_wp2
          go_ret
          exact ⟨ret_eq (congrArg Value.bool (by rw [HR.out, HS.out.2.2.2 hxy])), _, (World.drewN_drewN _ _ _).symm⟩
      · obtain rfl : i = m.length := by omega
        have e : l = m := by
          rw [List.take_length] at hp
          rw [← hp, ← HN.out, List.take_length]
        have hr : r = true := by rw [HR.out]; exact decide_eq_true e
        clear hp e
        subst hr
        go_wp2
        go_ret
        exact ⟨rfl, n, rfl⟩
  · rw [same_len8 hne] at HR
    have hr : r = false := HR.out
    subst hr
    clear HR
    have hne' : ((l.length : Int) != (m.length : Int)) = true := by simp; omega
    go_enter Tryd.func16, Tryd.ntmps16
    go_wp2
    go_ret
    exact ⟨rfl, 0, rfl⟩

theorem u8s_one (l : List Nat) : ∀ u ∈ u8s l, u.oneCell' = true := by intro u hu; obtain ⟨y, _, rfl⟩ := List.mem_map.1 hu; rfl
theorem part_byte (x i : Nat) : partP x (8 * (i : Int)) 8 = x / 2 ^ (8 * i) % 256 ∨ 63 < 8 * i := by
  unfold partP lowP
  by_cases h : 63 < 8 * i
  · exact .inr h
  · left
    rw [if_neg (by omega), if_neg (by omega), if_neg (by omega)]
    rw [show (max (8 * (i : Int)) 0).toNat = 8 * i by omega]
    rfl
theorem put8_snoc (x i : Nat) : ((List.range (i + 1)).map fun j => x / 2 ^ (8 * j) % 256) = ((List.range i).map fun j => x / 2 ^ (8 * j) % 256) ++ [x / 2 ^ (8 * i) % 256] := by simp [List.range_succ]
set_option maxRecDepth 100000 in
set_option maxHeartbeats 1000000 in
theorem rPut_w (x : Nat) (w : World) (hx : W64 x) :
    Calls Tryd.prog 79 #[.int .u64 (x : Int), .int .i64 8] w fun r w' => ∃ v, r = .returned v ∧ w'.ownsRow w.heap.size 5 1 v 8 (u8s (put8 x)) ∧ Only No w w' := by
  obtain ⟨i0, hinf, hz0, hz1, hz2⟩ := info_parts info_u8
  have HP := Lib.hid (fun (i : Nat) (W : World) => Part_c x (8 * (i : Int)) 8 W hx)
  have HE := Lib.hid (show put8 x = (List.range 8).map (fun j => x / 2 ^ (8 * j) % 256) from rfl)
  rw [HE.out]
  go_enter Tryd.func79, Tryd.ntmps79
  go_wp2
  go_loopw [5, 6] (fun v5 v6 wr => ∃ (i : Nat) (ys : List Nat), i ≤ 8 ∧ v6 = .int .i64 i ∧ ys = (List.range i).map (fun j => x / 2 ^ (8 * j) % 256) ∧ ys.length = i ∧ Bun wr w.heap.size [(5, 1, v5, ys.length, u8s ys)] ∧ Only No w wr) (fun _ v6 _ => 8 - (intOf v6).toNat)
  case atStart => exact ⟨0, [], by omega, rfl, rfl, rfl, (Bun.nil _ _).cons_nil _ _, Only.refl _ _⟩
  case round =>
    obtain ⟨i, ys, hi, rfl, hys, hyl, hB, hO⟩ := hrel
    obtain ⟨ya, yc, rfl⟩ := bun_is hB 0 rfl
    by_cases hlt : i < 8
    · have hPi := HP.out i wr
      have hpb := (part_byte x i).resolve_right (by omega)
      rw [hpb] at hPi
      have hbb : x / 2 ^ (8 * i) % 256 < 256 := Nat.mod_lt _ (by omega)
      have HS := Lib.hid (put8_snoc x i)
      generalize x / 2 ^ (8 * i) % 256 = c at *
      have HPi := Lib.hid hPi
      have HY := Lib.hid hys
      have HYL := Lib.hid hyl
      have hy8 : ys.length ≤ 8 := by omega
      have hz := hO.size
      clear hPi hpb hys hyl
      go_wp2_with (first
        | (go_at_call 117; refine HPi.out.mono ?_; rintro r w' ⟨rfl, rfl⟩)
        | (at_builtin; refine wpList_append1o rfl (.tmp 18) (.tmp 24) 28 rfl w.heap.size 5 i0 (.int .u8 0) 1 1 Tryd.underlying28 hinf hz0 hz1 hz2 rfl (by decide) _ hB 0 _ _ _ rfl rfl [.int .u8 (c : Int)] _ _ rfl rfl rfl (by simp [Value.oneCell']) (by unfold maxLen; omega) (by omega) hz ?_; intro g6 d6 w6 hB6 hO6))
      go_roundw
      case rel => exact ⟨i + 1, ys ++ [c], by omega, by go_num, by rw [HS.out, HY.out], by have := HYL.out; simp; omega, by simpa [List.set, u8s_snoc] using hB6, ((hO.of_no (S := fun k => w.heap.size ≤ k)).trans (hO6.mono (fun k _ e => ((hB.owns 0 _ rfl).lt e).1))).mono (fun k hk e => by exfalso; omega)⟩
      case measure => simp [intOf]; omega
    · obtain rfl : i = 8 := by omega
      have hB' : wr.ownsRow w.heap.size 5 1 (.slice ya ys.length yc) ys.length (u8s ys) := hB.owns 0 _ rfl
      have HY := Lib.hid (And.intro hys hyl)
      clear hys hyl hB
      go_wp2
      go_ret
      refine ⟨_, rfl, ?_, hO⟩
      rw [← HY.out.1]
      have := HY.out.2
      rw [← this]
      exact hB'
set_option maxRecDepth 100000 in
set_option maxHeartbeats 1000000 in
theorem rVar_c : ∀ (x : Nat), W64 x → ∀ (w : World), Calls Tryd.prog 41 #[.int .u64 (x : Int)] w fun r w' => ∃ v, r = .returned v ∧ w'.ownsRow w.heap.size 5 1 v (varL x).length (u8s (varL x)) ∧ Only No w w' := by
  obtain ⟨i0, hinf, hz0, hz1, hz2⟩ := info_parts info_u8
  intro x
  induction x using Nat.strongRecOn with
  | _ x ih =>
    intro hx w
    by_cases h : x < 128
    · rw [varL_low h]
      have hxz : (x : Int) < 128 := by omega
      have HX := Lib.hid hx
      clear ih h hx
      go_enter Tryd.func41, Tryd.ntmps41
      go_wp2
      go_ret
      refine ⟨_, rfl, ⟨rfl, .inr ⟨w.heap.size, 1, _, rfl, Nat.le_refl _, Blk.new w #[.int .u8 (x : Int)] 5, by simp, by unfold maxLen; omega, by simp, by simp [u8s]⟩⟩, (Only.refl _ _).alloc _⟩
    · have hq : W64 (x / 128) := Nat.lt_of_le_of_lt (Nat.div_le_self _ _) hx
      have IH := Lib.hid (fun w => ih (x / 128) (by omega) hq w)
      have hvl := varL_len (x / 128) hq
      have HV := Lib.hid (varL_high h)
      have hxz : ¬ (x : Int) < 128 := by omega
      have hm : 128 + x % 128 < 256 := by omega
      have e1 : (128 + (x : Int) % 128) = ((128 + x % 128 : Nat) : Int) := by simp
      have e2 : ((x : Int) / 128) = ((x / 128 : Nat) : Int) := by simp
      rw [HV.out]
      generalize varL (x / 128) = ys at *
      generalize 128 + x % 128 = c at *
      generalize x / 128 = q at *
      have hwq : IntKind.u64.wrap (q : Int) = (q : Int) := by rw [IntKind.wrap_u64]; unfold W64 at hq; omega
      clear ih h
      have hb0 := Blk.new w #[.int .u8 (c : Int)] 5
      have hO0 := (Only.refl No w).alloc (.cells #[.int .u8 (c : Int)] 5)
      have hrow : (w.alloc (.cells #[.int .u8 (c : Int)] 5)).ownsRow w.heap.size 5 1 (.slice (some ⟨w.heap.size, 0, none⟩) 1 1) 1 [.int .u8 (c : Int)] := ⟨rfl, .inr ⟨w.heap.size, 1, _, rfl, Nat.le_refl _, hb0, by simp, by unfold maxLen; omega, by simp, by simp⟩⟩
      go_enter Tryd.func41, Tryd.ntmps41
      go_wp2_with (first
        | (go_at_call 41; refine (IH.out _).mono ?_; rintro r w1 ⟨v1, rfl, hv1, hO1⟩; have hr1 := hO1.row hrow (fun _ _ h => h); have hBr := bun_one hr1; have hz1' : w.heap.size ≤ w1.heap.size := Nat.le_trans hO0.size hO1.size)
        | (at_builtin; refine wpList_appendL rfl (.tmp 12) (.tmp 15) 28 rfl w.heap.size 5 i0 (.int .u8 0) 1 1 Tryd.underlying28 hinf hz0 hz1 hz2 rfl (by decide) _ hBr 0 _ _ _ rfl rfl _ ys.length (u8s ys) rfl (RdN.of_row hv1) (u8s_one _) (by unfold maxLen; omega) (by omega) hz1' ?_; intro a2 c2 w2 hBA hOA _))
      go_ret
      have hrr := hBA.owns 0 _ rfl
      refine ⟨_, rfl, ?_, ((hO0.trans hO1).of_no.trans hOA).mono (fun k hk e => by exfalso; omega)⟩
      show w2.ownsRow w.heap.size 5 1 (.slice a2 (1 + ys.length) c2) (ys.length + 1) (u8s (c :: ys))
      rw [Nat.add_comm ys.length 1]
      exact hrr
set_option maxRecDepth 100000 in
set_option maxHeartbeats 1000000 in
theorem Get8_c (v : Value) (l : List Nat) (w : World) (hR : Rd w v (u8s l)) (hb : ∀ c ∈ l, c < 256) (hl : l.length = 8) :
    Calls Tryd.prog 139 #[v] w fun r w' => r = .returned (.tuple #[.int .u64 (get8 l : Nat), .int .i64 0]) ∧ w = w' := by
  obtain ⟨a, cap, rfl, hcap⟩ := hR.cases
  rw [u8s_len] at *
  obtain ⟨-, b, o, rfl, hbl, hcell⟩ := hR.at (by rw [u8s_len]; omega)
  have HG := Lib.hid (get8_get l)
  rw [HG.out]
  obtain ⟨R, hRR⟩ : ∃ R, R = getN l := ⟨_, rfl⟩
  rw [← hRR]
  have HX := Lib.hid hRR
  have HC := Lib.hid (fun (i : Nat) (hi : i < 8) => show ∃ c : Nat, w.cell? ⟨b, o + i, none⟩ = some (.int .u8 (c : Int)) ∧ c < 256 ∧ getN (l.drop i) = c + 256 * getN (l.drop (i + 1)) ∧ c + 256 * getN (l.drop (i + 1)) < 18446744073709551616 by
    have hil : i < l.length := by omega
    refine ⟨l[i], hcell i _ (u8s_get hil), hb _ (List.getElem_mem hil), by rw [List.drop_eq_getElem_cons hil]; rfl, ?_⟩
    have h1 : l[i] + 256 * getN (l.drop (i + 1)) = getN (l.drop i) := by rw [List.drop_eq_getElem_cons hil]; rfl
    rw [h1]
    have h2 := getN_lt (l.drop i) (fun c hc => hb c (List.mem_of_mem_drop hc))
    have h3 : 2 ^ (8 * (l.drop i).length) ≤ 2 ^ 64 := Nat.pow_le_pow_right (by omega) (by rw [List.length_drop]; omega)
    omega)
  rw [hl]
  clear hRR hR hcell hb
  go_enter Tryd.func139, Tryd.ntmps139
  go_wp2
  go_loopw [4, 5] (fun v4 v5 wr => wr = w ∧ ∃ i : Nat, i ≤ 8 ∧ v5 = .int .i64 ((i : Int) - 1) ∧ v4 = .int .u64 (getN (l.drop i) : Nat)) (fun _ v5 _ => ((intOf v5) + 1).toNat)
  case atStart => exact ⟨rfl, 8, by omega, rfl, by rw [List.drop_eq_nil_of_le (by omega)]; rfl⟩
  case round =>
    obtain ⟨rfl, i, hi, rfl, rfl⟩ := hrel
    rcases Nat.eq_zero_or_pos i with h0 | h0
    · have hneg : ¬ (0 : Int) ≤ (i : Int) - 1 := by omega
      have hn1 : ¬ (1 : Int) ≤ (i : Int) := by omega
      have hRg : getN (l.drop i) = R := by rw [HX.out, h0, List.drop_zero]
      rw [hRg]
      have H0 := Lib.hid h0
      clear h0 hRg
      go_wp2
      go_ret2
      exact ⟨rfl, rfl⟩
    · obtain ⟨j, rfl⟩ : ∃ j, i = j + 1 := ⟨i - 1, by omega⟩
      obtain ⟨c, hc, hcb, hg, hlt⟩ := HC.out j (by omega)
      have e1 : (((j + 1 : Nat) : Int) - 1) = (j : Int) := by omega
      rw [e1]
      have HG2 := Lib.hid hg
      generalize getN (l.drop (j + 1)) = y at *
      have hj0 : (0 : Int) ≤ (j : Int) := by omega
      have hj8 : (j : Int) < 8 := by omega
      clear hg e1 h0
      go_wp2
      go_roundw
      case rel => exact ⟨by trivial, j, by omega, by go_num, (congrArg (Value.int .u64) (by rw [HG2.out]; omega))⟩
      case measure => simp [intOf] <;> omega
end Go.Proofs.YtdcinifcpaldiaaDoor
