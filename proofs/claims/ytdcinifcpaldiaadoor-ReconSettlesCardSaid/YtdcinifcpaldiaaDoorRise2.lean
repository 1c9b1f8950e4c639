/- The document's Has, put, Rise, Sift, Same over numbers. The document's put, Rise, Sift over numbers. The document's Rise and Sift. put and Rise of the document again: where the answer lies. No statement is proved here. -/
import Derived.Test.YtdcinifcpaldiaaDoorSift

namespace Go.Proofs.YtdcinifcpaldiaaDoor
open Go.RowKit Go.Maps

theorem isIn_cons_take (x : Nat) (l : List Nat) {i : Nat} (h : i < l.length) : isIn x (l.take (i + 1)) = (isIn x (l.take i) || decide (l[i] = x)) := by
  unfold isIn
  rw [List.take_succ_eq_append_getElem h, ← Bool.decide_or]
  exact decide_eq_decide.2 (by rw [List.mem_append, List.mem_singleton, eq_comm (a := x)])
set_option maxRecDepth 100000 in
theorem Has_c (v : Value) (l : List Nat) (x : Nat) (w : World) (hR : Rd w v (u64s l)) (hl : l.length ≤ 1000000) : Calls Tryd.prog 94 #[v, .int .u64 (x : Int)] w fun e w' => e = .returned (.bool (isIn x l)) ∧ w = w' := by
  obtain ⟨a, cap, rfl, hcap⟩ := hR.cases
  rw [u64s_len] at *
  obtain ⟨r, hr⟩ : ∃ r : Bool, r = isIn x l := ⟨_, rfl⟩
  rw [← hr]
  have HR := Lib.hid hr
  clear hr
  go_enter Tryd.func94, Tryd.ntmps94
  go_wp2
  go_loop [5] (fun v5 => ∃ i : Nat, i ≤ l.length ∧ v5 = .int .i64 i ∧ isIn x (l.take i) = false) (fun v5 => l.length - (intOf v5).toNat)
  case atStart => exact ⟨0, by omega, rfl, by simp [isIn]⟩
  case round =>
    obtain ⟨i, hi, rfl, hp⟩ := hrel
    by_cases hlt : i < l.length
    · obtain ⟨-, b, off, rfl, hbl, hcell⟩ := hR.at (by rw [u64s_len]; omega)
      have hc2 := hcell i _ (u64s_get hlt)
      have hs := isIn_cons_take x l hlt
      rw [hp, Bool.false_or] at hs
      have hin : l[i] = x → isIn x l = true := fun e => by unfold isIn; rw [← e]; simp
      have HI := Lib.hid hin
      generalize l[i] = y at *
      have HS := Lib.hid hs
      clear hcell hs hp hin
      by_cases hxy : y = x
      · subst hxy
        go_wp2
        go_ret
        exact ⟨ret_eq (congrArg Value.bool (by rw [HR.out, HI.out trivial])), rfl⟩
      · have hxy' : ((y : Int) == (x : Int)) = false := by simp; omega
        go_wp2
        go_round
        case rel => exact ⟨i + 1, by omega, by go_num, by rw [HS.out]; exact decide_eq_false hxy⟩
        case measure => simp [intOf]; omega
    · obtain rfl : i = l.length := by omega
      rw [List.take_length] at hp
      rw [hp] at HR
      go_wp2
      go_ret
      exact ⟨ret_eq (congrArg Value.bool HR.out.symm), rfl⟩

def sameL (a b : List Nat) : Bool := decide (a = b)
theorem same_len {a b : List Nat} (h : a.length ≠ b.length) : sameL a b = false := decide_eq_false (fun e => h (by rw [e]))
set_option maxRecDepth 100000 in
set_option maxHeartbeats 1000000 in
theorem Same_c (v1 v2 : Value) (l m : List Nat) (w : World) (hR1 : Rd w v1 (u64s l)) (hR2 : Rd w v2 (u64s m)) (hl : l.length ≤ 1000000) (hm : m.length ≤ 1000000) :
    Calls Tryd.prog 18 #[v1, v2] w fun e w' => e = .returned (.bool (sameL l m)) ∧ ∃ n, w.drewN n = w' := by
  obtain ⟨a1, cap1, rfl, hcap1⟩ := hR1.cases
  obtain ⟨a2, cap2, rfl, hcap2⟩ := hR2.cases
  rw [u64s_len] at *
  obtain ⟨r, hr⟩ : ∃ r : Bool, r = sameL l m := ⟨_, rfl⟩
  rw [← hr]
  have HR := Lib.hid hr
  clear hr
  by_cases hne : l.length = m.length
  · go_enter Tryd.func18, Tryd.ntmps18
    have HN := Lib.hid hne
    rw [hne]
    clear hne
    go_wp2
    go_loopw [5] (fun v5 wr => ∃ i n : Nat, i ≤ m.length ∧ v5 = .int .i64 i ∧ l.take i = m.take i ∧ wr = w.drewN n) (fun v5 _ => m.length - (intOf v5).toNat)
    case atStart => exact ⟨0, 0, by omega, rfl, by simp, rfl⟩
    case round =>
      obtain ⟨i, n, hi, rfl, hp, rfl⟩ := hrel
      by_cases hlt : i < m.length
      · have hlt1 : i < l.length := by rw [HN.out]; exact hlt
        obtain ⟨-, b, off, rfl, hbl, hcell⟩ := hR1.at (by rw [u64s_len]; omega)
        obtain ⟨-, b2, off2, rfl, hbl2, hcell2⟩ := hR2.at (by rw [u64s_len]; omega)
        have hc1 := hcell i _ (u64s_get hlt1)
        have hc2 := hcell2 i _ (u64s_get hlt)
        have ht1 := List.take_succ_eq_append_getElem hlt1
        have ht2 := List.take_succ_eq_append_getElem hlt
        have hno : l[i] ≠ m[i] → sameL l m = false := fun h => decide_eq_false (fun e => h (by simp [e]))
        generalize l[i] = x at *
        generalize m[i] = y at *
        have HS := Lib.hid (And.intro hp (And.intro ht1 (And.intro ht2 hno)))
        clear hcell hcell2 ht1 ht2 hp hno hlt1
        have hi0 : (0 : Int) ≤ (i : Int) := by omega
        have him : (i : Int) < (m.length : Int) := by omega
        by_cases hxy : x = y
        · subst hxy
          go_wp2_with fail
          go_quiet (fail)
          go_wp2
          go_roundw
          case rel => exact ⟨i + 1, _, by omega, by go_num, by rw [HS.out.2.1, HS.out.2.2.1, HS.out.1], rfl⟩
          case measure => simp [intOf]; omega
        · have hxy' : ((x : Int) != (y : Int)) = true := by simp; omega
          go_wp2_with fail
          go_quiet (fail)
          go_wp2
          go_ret
          exact ⟨ret_eq (congrArg Value.bool (by rw [HR.out, HS.out.2.2.2 hxy])), _, (World.drewN_drewN _ _ _).symm⟩
      · obtain rfl : i = m.length := by omega
        have e : l = m := by
          rw [List.take_length] at hp
          rw [← hp, ← HN.out, List.take_length]
        have hr : r = true := by rw [HR.out]; exact decide_eq_true e
        clear hp e
        subst hr
        go_wp2
        go_ret
        exact ⟨rfl, n, rfl⟩
  · rw [same_len hne] at HR
    have hr : r = false := HR.out
    subst hr
    clear HR
    have hne' : ((l.length : Int) != (m.length : Int)) = true := by simp; omega
    go_enter Tryd.func18, Tryd.ntmps18
    go_wp2
    go_ret
    exact ⟨rfl, 0, rfl⟩
end Go.Proofs.YtdcinifcpaldiaaDoor

namespace Go.Proofs.YtdcinifcpaldiaaDoor
open Go.RowKit Go.Maps

theorem ins_snoc {x y : Nat} (l : List Nat) (h : x < y) : ins x (l ++ [y]) = ins x l ++ [y] := by
  unfold ins
  rw [List.filter_append, List.filter_append, List.filter_cons_of_neg (by simp; omega), List.filter_cons_of_pos (by simpa using h)]
  simp
/-- What put has gathered of those it has looked at. -/
def gath (D : Bool) (x : Nat) (l : List Nat) : List Nat := match D with | true => ins x l | false => l
def PutOk (D : Bool) (x : Nat) (l : List Nat) : Prop := match D with | true => ∃ y ∈ l, x < y | false => ∀ y ∈ l, y < x
set_option maxRecDepth 100000 in
set_option maxHeartbeats 2000000 in
theorem put_c (v : Value) (l : List Nat) (x : Nat) (w : World) (hR : Rd w v (u64s l)) (hl : l.length ≤ 1000000) (hup : Up l) :
    Calls Tryd.prog 52 #[v, .int .u64 (x : Int)] w fun e w' => ∃ v', e = .returned v' ∧ Rd w' v' (u64s (ins x l)) ∧ Only No w w' := by
  obtain ⟨a, cap, rfl, hcap⟩ := hR.cases
  rw [u64s_len] at *
  obtain ⟨i0, hinf, hz0, hz1, hz2⟩ := info_parts info_u64
  go_enter Tryd.func52, Tryd.ntmps52
  go_wp2
  go_loopw [5, 6, 7] (fun v5 v6 v7 wr => ∃ (i : Nat) (D : Bool), i ≤ l.length ∧ v7 = .int .i64 i ∧ v6 = .bool D ∧ PutOk D x (l.take i) ∧
      Bun wr w.heap.size [(25, 1, v5, (gath D x (l.take i)).length, u64s (gath D x (l.take i)))] ∧ Only (fun k => w.heap.size ≤ k) w wr) (fun _ _ v7 _ => l.length - (intOf v7).toNat)
  case atStart => exact ⟨0, false, by omega, rfl, rfl, by simp [PutOk], by simpa [gath, u64s] using (Bun.nil w w.heap.size).cons_nil 25 1, Only.refl _ _⟩
  case round =>
    obtain ⟨i, D, hi, rfl, rfl, hok, hB, hO⟩ := hrel
    obtain ⟨a5, c5, rfl⟩ := bun_is hB 0 rfl
    by_cases hlt : i < l.length
    · obtain ⟨-, b, off, rfl, hbl, hcell⟩ := hR.at (by rw [u64s_len]; omega)
      have hc2 := (hO.cell (p := ⟨b, off + i, none⟩) hbl (by show ¬ w.heap.size ≤ b; omega)).trans (hcell i _ (u64s_get hlt))
      have hts : l.take (i + 1) = l.take i ++ [l[i]] := List.take_succ_eq_append_getElem hlt
      have hbel : ∀ y ∈ l.take i, y < l[i] := by
        intro y hy
        obtain ⟨j, hj, rfl⟩ := List.mem_iff_getElem.1 hy
        have hj' : j < i := by simp at hj; omega
        rw [List.getElem_take]
        exact List.pairwise_iff_getElem.1 hup j i (by omega) hlt hj'
      have hmem : l[i] = x → ins x l = l := fun e => ins_mem hup (by rw [← e]; exact List.getElem_mem hlt)
      have hg1 : (gath D x (l.take i)).length ≤ 1000000 := by
        have h1 : (l.take i).length < l.length := by simp; omega
        cases D
        · show (l.take i).length ≤ _; omega
        · have := ins_len x (l.take i); show (ins x (l.take i)).length ≤ _; omega
      have HM := Lib.hid hmem
      generalize l[i] = y at *
      generalize hp : l.take i = p at *
      clear hcell hmem
      rcases Nat.lt_trichotomy y x with hyx | hyx | hyx
      · -- y < x: nothing yet
        have hD : D = false := by
          cases D with
          | false => rfl
          | true => obtain ⟨z, hz, hxz⟩ := hok; have := hbel z hz; omega
        subst hD
        have HS := Lib.hid (And.intro hts hok)
        clear hts hok hbel hp
        have e1 : ((y : Int) == (x : Int)) = false := by simp; omega
        go_wp2_with (at_builtin; refine wpList_append1 rfl (.tmp 35) (.tmp 40) 22 rfl w.heap.size 25 i0 (.int .u64 0) 1 8 Tryd.underlying22 hinf hz0 hz1 hz2 rfl (by decide) _ hB 0 _ _ _ rfl rfl [.int .u64 (y : Int)] _ _ rfl rfl rfl (by simp [Value.oneCell']) (by unfold maxLen; omega) (by omega) hO.size ?_; intro g cap1 wn hBn hOn)
        go_roundw
        case rel =>
          refine ⟨i + 1, false, by omega, by go_num, rfl, ?_, ?_, hO.trans hOn⟩
          · rw [HS.out.1]
            intro z hz
            rcases List.mem_append.1 hz with hz | hz
            · exact HS.out.2 z hz
            · simp at hz; omega
          · rw [HS.out.1]
            simpa [gath, u64s_snoc, List.set] using hBn
        case measure => simp [intOf]; omega
      · subst hyx
        go_wp2
        go_ret
        exact ⟨_, rfl, by rw [HM.out trivial]; exact hR.only hO (fun b' hb' hb2 hs => by omega), hO.then (T := No) (Only.refl _ _) (fun _ _ h => h.elim) |>.mono (fun k hk hs => by omega)⟩
      · have e1 : ((y : Int) == (x : Int)) = false := by simp; omega
        cases D with
        | true =>
          have HS := Lib.hid (And.intro hts hok)
          clear hts hok hbel hp
          go_wp2_with (at_builtin; refine wpList_append1 rfl (.tmp 35) (.tmp 40) 22 rfl w.heap.size 25 i0 (.int .u64 0) 1 8 Tryd.underlying22 hinf hz0 hz1 hz2 rfl (by decide) _ hB 0 _ _ _ rfl rfl [.int .u64 (y : Int)] _ _ rfl rfl rfl (by simp [Value.oneCell']) (by unfold maxLen; omega) (by omega) hO.size ?_; intro g cap1 wn hBn hOn)
          go_roundw
          case rel =>
            refine ⟨i + 1, true, by omega, by go_num, rfl, ?_, ?_, hO.trans hOn⟩
            · rw [HS.out.1]
              obtain ⟨z, hz, hxz⟩ := HS.out.2
              exact ⟨z, List.mem_append_left _ hz, hxz⟩
            · rw [HS.out.1]
              show Bun _ _ [(_, _, _, (ins x (p ++ [y])).length, u64s (ins x (p ++ [y])))]
              rw [ins_snoc p hyx]
              simpa [gath, u64s_snoc, List.set] using hBn
          case measure => simp [intOf]; omega
        | false =>
          have hia : ins x p = p ++ [x] := ins_last hok
          have HS := Lib.hid (And.intro hts hia)
          clear hts hok hbel hp hia
          go_wp2_with (first
            | (at_builtin; refine wpList_append1 rfl (.tmp 31) (.tmp 33) 22 rfl w.heap.size 25 i0 (.int .u64 0) 1 8 Tryd.underlying22 hinf hz0 hz1 hz2 rfl (by decide) _ hB 0 _ _ _ rfl rfl [.int .u64 (x : Int)] _ _ rfl rfl rfl (by simp [Value.oneCell']) (by unfold maxLen; omega) (by omega) hO.size ?_; intro g cap1 wn hBn hOn; have hc3 := (hOn.cell (p := ⟨b, off + i, none⟩) (Nat.lt_of_lt_of_le hbl hO.size) (by show ¬ w.heap.size ≤ b; omega)).trans hc2)
            | (at_builtin; refine wpList_append1 rfl (.tmp 35) (.tmp 40) 22 rfl w.heap.size 25 i0 (.int .u64 0) 1 8 Tryd.underlying22 hinf hz0 hz1 hz2 rfl (by decide) _ hBn 0 _ _ _ rfl rfl [.int .u64 (y : Int)] _ _ rfl rfl rfl (by simp [Value.oneCell']) (by unfold maxLen; omega) (by omega) (Nat.le_trans hO.size hOn.size) ?_; intro g2 cap2 wn2 hBn2 hOn2))
          go_roundw
          case rel =>
            refine ⟨i + 1, true, by omega, by go_num, rfl, ?_, ?_, (hO.trans hOn).trans hOn2⟩
            · rw [HS.out.1]
              exact ⟨y, by simp, hyx⟩
            · rw [HS.out.1]
              show Bun _ _ [(_, _, _, (ins x (p ++ [y])).length, u64s (ins x (p ++ [y])))]
              rw [ins_snoc p hyx, HS.out.2]
              simpa [gath, u64s, List.set] using hBn2
          case measure => simp [intOf]; omega
    · have : i = l.length := by omega
      subst this
      rw [List.take_length] at hok hB ⊢
      cases D with
      | true =>
        go_wp2
        go_ret
        exact ⟨_, rfl, Rd.of_row (hB.owns 0 _ rfl), hO.mono (fun k hk hs => by omega)⟩
      | false =>
        have hia : ins x l = l ++ [x] := ins_last hok
        have HS := Lib.hid hia
        have hg : (gath false x l).length ≤ 1000000 := hl
        clear hia hok
        go_wp2_with (at_builtin; refine wpList_append1 rfl (.tmp 44) (.tmp 46) 22 rfl w.heap.size 25 i0 (.int .u64 0) 1 8 Tryd.underlying22 hinf hz0 hz1 hz2 rfl (by decide) _ hB 0 _ _ _ rfl rfl [.int .u64 (x : Int)] _ _ rfl rfl rfl (by simp [Value.oneCell']) (by unfold maxLen; omega) (by omega) hO.size ?_; intro g cap1 wn hBn hOn)
        go_ret
        refine ⟨_, rfl, ?_, (hO.trans hOn).mono (fun k hk hs => by omega)⟩
        rw [HS.out]
        have := Rd.of_row (hBn.owns 0 _ rfl)
        simpa [gath, u64s_snoc] using this
end Go.Proofs.YtdcinifcpaldiaaDoor

namespace Go.Proofs.YtdcinifcpaldiaaDoor
open Go.RowKit Go.Maps

theorem rise_filter (p : Nat → Bool) (l : List Nat) : rise (l.filter p) = (rise l).filter p :=
  rise_eq ((rise_up l).filter _) (fun y => by simp only [List.mem_filter, mem_rise])
theorem rise_snoc_if (p : Nat → Bool) (l : List Nat) (x : Nat) : rise ((l ++ [x]).filter p) = if p x = true then ins x (rise (l.filter p)) else rise (l.filter p) := by
  rw [filter_snoc]
  by_cases h : p x = true
  · rw [if_pos h, if_pos h, rise_snoc]
  · rw [if_neg h, if_neg h]
set_option maxRecDepth 100000 in
set_option maxHeartbeats 1000000 in
theorem Rise_c (v : Value) (l : List Nat) (w : World) (hR : Rd w v (u64s l)) (hl : l.length ≤ 1000000) :
    Calls Tryd.prog 21 #[v] w fun e w' => ∃ v', e = .returned v' ∧ Rd w' v' (u64s (rise l)) ∧ Only No w w' := by
  obtain ⟨a, cap, rfl, hcap⟩ := hR.cases
  rw [u64s_len] at *
  go_enter Tryd.func21, Tryd.ntmps21
  go_wp2
  go_loopw [3, 4] (fun v3 v4 wr => ∃ i : Nat, i ≤ l.length ∧ v4 = .int .i64 i ∧ Rd wr v3 (u64s (rise (l.take i))) ∧ Only No w wr) (fun _ v4 _ => l.length - (intOf v4).toNat)
  case atStart => exact ⟨0, by omega, rfl, Rd.nil _ _ _, Only.refl _ _⟩
  case round =>
    obtain ⟨i, hi, rfl, hr, hO⟩ := hrel
    by_cases hlt : i < l.length
    · obtain ⟨-, b, off, rfl, hbl, hcell⟩ := hR.at (by rw [u64s_len]; omega)
      have hc2 := (hO.cell (p := ⟨b, off + i, none⟩) hbl id).trans (hcell i _ (u64s_get hlt))
      have hts : rise (l.take (i + 1)) = ins l[i] (rise (l.take i)) := by rw [List.take_succ_eq_append_getElem hlt, rise_snoc]
      have hlen : (rise (l.take i)).length ≤ 1000000 := Nat.le_trans (rise_len _) (by simp; omega)
      have hup := rise_up (l.take i)
      generalize l[i] = x at *
      generalize rise (l.take i) = r at *
      have HS := Lib.hid hts
      have HP := Lib.hid (put_c _ r x wr hr hlen hup)
      clear hcell hts hr
      go_wp2_with (go_at_call 52; refine HP.out.mono ?_; rintro e w1 ⟨v', rfl, hr1, hO1⟩)
      go_roundw
      case rel => exact ⟨i + 1, by omega, by go_num, by rw [HS.out]; exact hr1, hO.trans hO1⟩
      case measure => simp [intOf]; omega
    · obtain rfl : i = l.length := by omega
      rw [List.take_length] at hr
      go_wp2
      go_ret
      exact ⟨_, rfl, hr, hO⟩
set_option maxRecDepth 100000 in
set_option maxHeartbeats 1000000 in
theorem rSift_c (v1 v2 : Value) (l m : List Nat) (w : World) (hR1 : Rd w v1 (u64s l)) (hR2 : Rd w v2 (u64s m)) (hl : l.length ≤ 1000000) (hm : m.length ≤ 1000000) :
    Calls Tryd.prog 59 #[v1, v2] w fun e w' => ∃ u1 u2, e = .returned (.tuple #[u1, u2]) ∧ Rd w' u1 (u64s (sIn l m)) ∧ Rd w' u2 (u64s (sOut l m)) ∧ Only No w w' := by
  obtain ⟨a, cap, rfl, hcap⟩ := hR1.cases
  rw [u64s_len] at *
  go_enter Tryd.func59, Tryd.ntmps59
  go_wp2
  go_loopw [6, 7, 8] (fun v6 v7 v8 wr => ∃ i : Nat, i ≤ l.length ∧ v8 = .int .i64 i ∧ Rd wr v6 (u64s (rise ((l.take i).filter (fun x => isIn x m)))) ∧ Rd wr v7 (u64s (rise ((l.take i).filter (fun x => !isIn x m)))) ∧ Only No w wr)
    (fun _ _ v8 _ => l.length - (intOf v8).toNat)
  case atStart => exact ⟨0, by omega, rfl, Rd.nil _ _ _, Rd.nil _ _ _, Only.refl _ _⟩
  case round =>
    obtain ⟨i, hi, rfl, hr1, hr2, hO⟩ := hrel
    by_cases hlt : i < l.length
    · obtain ⟨-, b, off, rfl, hbl, hcell⟩ := hR1.at (by rw [u64s_len]; omega)
      have hc2 := (hO.cell (p := ⟨b, off + i, none⟩) hbl id).trans (hcell i _ (u64s_get hlt))
      have hts := List.take_succ_eq_append_getElem hlt
      have hs1 := rise_snoc_if (fun x => isIn x m) (l.take i) l[i]
      have hs2 := rise_snoc_if (fun x => !isIn x m) (l.take i) l[i]
      rw [← hts] at hs1 hs2
      have hl1 : (rise ((l.take i).filter (fun x => isIn x m))).length ≤ 1000000 := Nat.le_trans (rise_len _) (Nat.le_trans (List.length_filter_le _ _) (by simp; omega))
      have hl2 : (rise ((l.take i).filter (fun x => !isIn x m))).length ≤ 1000000 := Nat.le_trans (rise_len _) (Nat.le_trans (List.length_filter_le _ _) (by simp; omega))
      have hup1 := rise_up ((l.take i).filter (fun x => isIn x m))
      have hup2 := rise_up ((l.take i).filter (fun x => !isIn x m))
      clear hts
      generalize l[i] = x at *
      generalize rise ((l.take i).filter (fun x => isIn x m)) = r1 at *
      generalize rise ((l.take i).filter (fun x => !isIn x m)) = r2 at *
      have HH := Lib.hid (Has_c v2 m x wr (hR2.no hO) hm)
      have HP1 := Lib.hid (put_c _ r1 x wr hr1 hl1 hup1)
      have HP2 := Lib.hid (put_c _ r2 x wr hr2 hl2 hup2)
      cases hin : isIn x m with
      | true =>
        rw [hin] at hs1 hs2
        have HS := Lib.hid (And.intro hs1 hs2)
        have HI2 := Lib.hid (hin ▸ HH.out)
        clear hs1 hs2 hin HH hcell
        go_wp2_with (first | (go_at_call 94; refine HI2.out.mono ?_; rintro e w' ⟨rfl, rfl⟩) | (go_at_call 52; refine HP1.out.mono ?_; rintro e w1 ⟨v', rfl, hr3, hO1⟩))
        go_roundw
        case rel => exact ⟨i + 1, by omega, by go_num, by rw [HS.out.1]; exact hr3, by rw [HS.out.2]; exact hr2.no hO1, hO.trans hO1⟩
        case measure => simp [intOf]; omega
      | false =>
        rw [hin] at hs1 hs2
        have HS := Lib.hid (And.intro hs1 hs2)
        have HI2 := Lib.hid (hin ▸ HH.out)
        clear hs1 hs2 hin HH hcell
        go_wp2_with (first | (go_at_call 94; refine HI2.out.mono ?_; rintro e w' ⟨rfl, rfl⟩) | (go_at_call 52; refine HP2.out.mono ?_; rintro e w1 ⟨v', rfl, hr3, hO1⟩))
        go_roundw
        case rel => exact ⟨i + 1, by omega, by go_num, by rw [HS.out.1]; exact hr1.no hO1, by rw [HS.out.2]; exact hr3, hO.trans hO1⟩
        case measure => simp [intOf]; omega
    · obtain rfl : i = l.length := by omega
      rw [List.take_length, rise_filter] at hr1 hr2
      go_wp2
      go_ret2
      exact ⟨_, _, rfl, hr1, hr2, hO⟩
end Go.Proofs.YtdcinifcpaldiaaDoor

namespace Go.Proofs.YtdcinifcpaldiaaDoor
open Go.RowKit Go.Maps

set_option maxRecDepth 100000 in
set_option maxHeartbeats 2000000 in
theorem put_f (v : Value) (l : List Nat) (x : Nat) (w : World) (hR : Rd w v (u64s l)) (hl : l.length ≤ 1000000) (hup : Up l) :
    Calls Tryd.prog 52 #[v, .int .u64 (x : Int)] w fun e w' => ∃ v', e = .returned v' ∧ (∀ b', v'.ownBlock = some b' → v.ownBlock = some b' ∨ w.heap.size ≤ b') ∧ Rd w' v' (u64s (ins x l)) ∧ Only No w w' := by
  obtain ⟨a, cap, rfl, hcap⟩ := hR.cases
  rw [u64s_len] at *
  obtain ⟨i0, hinf, hz0, hz1, hz2⟩ := info_parts info_u64
  go_enter Tryd.func52, Tryd.ntmps52
  go_wp2
  go_loopw [5, 6, 7] (fun v5 v6 v7 wr => ∃ (i : Nat) (D : Bool), i ≤ l.length ∧ v7 = .int .i64 i ∧ v6 = .bool D ∧ PutOk D x (l.take i) ∧
      Bun wr w.heap.size [(25, 1, v5, (gath D x (l.take i)).length, u64s (gath D x (l.take i)))] ∧ Only (fun k => w.heap.size ≤ k) w wr) (fun _ _ v7 _ => l.length - (intOf v7).toNat)
  case atStart => exact ⟨0, false, by omega, rfl, rfl, by simp [PutOk], by simpa [gath, u64s] using (Bun.nil w w.heap.size).cons_nil 25 1, Only.refl _ _⟩
  case round =>
    obtain ⟨i, D, hi, rfl, rfl, hok, hB, hO⟩ := hrel
    obtain ⟨a5, c5, rfl⟩ := bun_is hB 0 rfl
    by_cases hlt : i < l.length
    · obtain ⟨-, b, off, rfl, hbl, hcell⟩ := hR.at (by rw [u64s_len]; omega)
      have hc2 := (hO.cell (p := ⟨b, off + i, none⟩) hbl (by show ¬ w.heap.size ≤ b; omega)).trans (hcell i _ (u64s_get hlt))
      have hts : l.take (i + 1) = l.take i ++ [l[i]] := List.take_succ_eq_append_getElem hlt
      have hbel : ∀ y ∈ l.take i, y < l[i] := by
        intro y hy
        obtain ⟨j, hj, rfl⟩ := List.mem_iff_getElem.1 hy
        have hj' : j < i := by simp at hj; omega
        rw [List.getElem_take]
        exact List.pairwise_iff_getElem.1 hup j i (by omega) hlt hj'
      have hmem : l[i] = x → ins x l = l := fun e => ins_mem hup (by rw [← e]; exact List.getElem_mem hlt)
      have hg1 : (gath D x (l.take i)).length ≤ 1000000 := by
        have h1 : (l.take i).length < l.length := by simp; omega
        cases D
        · show (l.take i).length ≤ _; omega
        · have := ins_len x (l.take i); show (ins x (l.take i)).length ≤ _; omega
      have HM := Lib.hid hmem
      generalize l[i] = y at *
      generalize hp : l.take i = p at *
      clear hcell hmem
      rcases Nat.lt_trichotomy y x with hyx | hyx | hyx
      · -- y < x: nothing yet
        have hD : D = false := by
          cases D with
          | false => rfl
          | true => obtain ⟨z, hz, hxz⟩ := hok; have := hbel z hz; omega
        subst hD
        have HS := Lib.hid (And.intro hts hok)
        clear hts hok hbel hp
        have e1 : ((y : Int) == (x : Int)) = false := by simp; omega
        go_wp2_with (at_builtin; refine wpList_append1 rfl (.tmp 35) (.tmp 40) 22 rfl w.heap.size 25 i0 (.int .u64 0) 1 8 Tryd.underlying22 hinf hz0 hz1 hz2 rfl (by decide) _ hB 0 _ _ _ rfl rfl [.int .u64 (y : Int)] _ _ rfl rfl rfl (by simp [Value.oneCell']) (by unfold maxLen; omega) (by omega) hO.size ?_; intro g cap1 wn hBn hOn)
        go_roundw
        case rel =>
          refine ⟨i + 1, false, by omega, by go_num, rfl, ?_, ?_, hO.trans hOn⟩
          · rw [HS.out.1]
            intro z hz
            rcases List.mem_append.1 hz with hz | hz
            · exact HS.out.2 z hz
            · simp at hz; omega
          · rw [HS.out.1]
            simpa [gath, u64s_snoc, List.set] using hBn
        case measure => simp [intOf]; omega
      · subst hyx
        go_wp2
        go_ret
        exact ⟨_, rfl, fun _ h => .inl h, by rw [HM.out trivial]; exact hR.only hO (fun b' hb' hb2 hs => by omega), hO.then (T := No) (Only.refl _ _) (fun _ _ h => h.elim) |>.mono (fun k hk hs => by omega)⟩
      · have e1 : ((y : Int) == (x : Int)) = false := by simp; omega
        cases D with
        | true =>
          have HS := Lib.hid (And.intro hts hok)
          clear hts hok hbel hp
          go_wp2_with (at_builtin; refine wpList_append1 rfl (.tmp 35) (.tmp 40) 22 rfl w.heap.size 25 i0 (.int .u64 0) 1 8 Tryd.underlying22 hinf hz0 hz1 hz2 rfl (by decide) _ hB 0 _ _ _ rfl rfl [.int .u64 (y : Int)] _ _ rfl rfl rfl (by simp [Value.oneCell']) (by unfold maxLen; omega) (by omega) hO.size ?_; intro g cap1 wn hBn hOn)
          go_roundw
          case rel =>
            refine ⟨i + 1, true, by omega, by go_num, rfl, ?_, ?_, hO.trans hOn⟩
            · rw [HS.out.1]
              obtain ⟨z, hz, hxz⟩ := HS.out.2
              exact ⟨z, List.mem_append_left _ hz, hxz⟩
            · rw [HS.out.1]
              show Bun _ _ [(_, _, _, (ins x (p ++ [y])).length, u64s (ins x (p ++ [y])))]
              rw [ins_snoc p hyx]
              simpa [gath, u64s_snoc, List.set] using hBn
          case measure => simp [intOf]; omega
        | false =>
          have hia : ins x p = p ++ [x] := ins_last hok
          have HS := Lib.hid (And.intro hts hia)
          clear hts hok hbel hp hia
          go_wp2_with (first
            | (at_builtin; refine wpList_append1 rfl (.tmp 31) (.tmp 33) 22 rfl w.heap.size 25 i0 (.int .u64 0) 1 8 Tryd.underlying22 hinf hz0 hz1 hz2 rfl (by decide) _ hB 0 _ _ _ rfl rfl [.int .u64 (x : Int)] _ _ rfl rfl rfl (by simp [Value.oneCell']) (by unfold maxLen; omega) (by omega) hO.size ?_; intro g cap1 wn hBn hOn; have hc3 := (hOn.cell (p := ⟨b, off + i, none⟩) (Nat.lt_of_lt_of_le hbl hO.size) (by show ¬ w.heap.size ≤ b; omega)).trans hc2)
            | (at_builtin; refine wpList_append1 rfl (.tmp 35) (.tmp 40) 22 rfl w.heap.size 25 i0 (.int .u64 0) 1 8 Tryd.underlying22 hinf hz0 hz1 hz2 rfl (by decide) _ hBn 0 _ _ _ rfl rfl [.int .u64 (y : Int)] _ _ rfl rfl rfl (by simp [Value.oneCell']) (by unfold maxLen; omega) (by omega) (Nat.le_trans hO.size hOn.size) ?_; intro g2 cap2 wn2 hBn2 hOn2))
          go_roundw
          case rel =>
            refine ⟨i + 1, true, by omega, by go_num, rfl, ?_, ?_, (hO.trans hOn).trans hOn2⟩
            · rw [HS.out.1]
              exact ⟨y, by simp, hyx⟩
            · rw [HS.out.1]
              show Bun _ _ [(_, _, _, (ins x (p ++ [y])).length, u64s (ins x (p ++ [y])))]
              rw [ins_snoc p hyx, HS.out.2]
              simpa [gath, u64s, List.set] using hBn2
          case measure => simp [intOf]; omega
    · have : i = l.length := by omega
      subst this
      rw [List.take_length] at hok hB ⊢
      cases D with
      | true =>
        go_wp2
        go_ret
        exact ⟨_, rfl, fun b' h => .inr ((hB.owns 0 _ rfl).lt h).1, Rd.of_row (hB.owns 0 _ rfl), hO.mono (fun k hk hs => by omega)⟩
      | false =>
        have hia : ins x l = l ++ [x] := ins_last hok
        have HS := Lib.hid hia
        have hg : (gath false x l).length ≤ 1000000 := hl
        clear hia hok
        go_wp2_with (at_builtin; refine wpList_append1 rfl (.tmp 44) (.tmp 46) 22 rfl w.heap.size 25 i0 (.int .u64 0) 1 8 Tryd.underlying22 hinf hz0 hz1 hz2 rfl (by decide) _ hB 0 _ _ _ rfl rfl [.int .u64 (x : Int)] _ _ rfl rfl rfl (by simp [Value.oneCell']) (by unfold maxLen; omega) (by omega) hO.size ?_; intro g cap1 wn hBn hOn)
        go_ret
        refine ⟨_, rfl, fun b' h => .inr ((hBn.owns 0 _ rfl).lt h).1, ?_, (hO.trans hOn).mono (fun k hk hs => by omega)⟩
        rw [HS.out]
        have := Rd.of_row (hBn.owns 0 _ rfl)
        simpa [gath, u64s_snoc] using this
set_option maxRecDepth 100000 in
set_option maxHeartbeats 1000000 in
theorem Rise_f (v : Value) (l : List Nat) (w : World) (hR : Rd w v (u64s l)) (hl : l.length ≤ 1000000) :
    Calls Tryd.prog 21 #[v] w fun e w' => ∃ v', e = .returned v' ∧ (∀ b', v'.ownBlock = some b' → w.heap.size ≤ b') ∧ Rd w' v' (u64s (rise l)) ∧ Only No w w' := by
  obtain ⟨a, cap, rfl, hcap⟩ := hR.cases
  rw [u64s_len] at *
  go_enter Tryd.func21, Tryd.ntmps21
  go_wp2
  go_loopw [3, 4] (fun v3 v4 wr => ∃ i : Nat, i ≤ l.length ∧ v4 = .int .i64 i ∧ (∀ b', v3.ownBlock = some b' → w.heap.size ≤ b') ∧ Rd wr v3 (u64s (rise (l.take i))) ∧ Only No w wr) (fun _ v4 _ => l.length - (intOf v4).toNat)
  case atStart => exact ⟨0, by omega, rfl, fun _ h => by simp [Value.ownBlock] at h, Rd.nil _ _ _, Only.refl _ _⟩
  case round =>
    obtain ⟨i, hi, rfl, hfr, hr, hO⟩ := hrel
    have HF := Lib.hid hfr
    clear hfr
    by_cases hlt : i < l.length
    · obtain ⟨-, b, off, rfl, hbl, hcell⟩ := hR.at (by rw [u64s_len]; omega)
      have hc2 := (hO.cell (p := ⟨b, off + i, none⟩) hbl id).trans (hcell i _ (u64s_get hlt))
      have hts : rise (l.take (i + 1)) = ins l[i] (rise (l.take i)) := by rw [List.take_succ_eq_append_getElem hlt, rise_snoc]
      have hlen : (rise (l.take i)).length ≤ 1000000 := Nat.le_trans (rise_len _) (by simp; omega)
      have hup := rise_up (l.take i)
      generalize l[i] = x at *
      generalize rise (l.take i) = r at *
      have HS := Lib.hid hts
      have HP := Lib.hid (put_f _ r x wr hr hlen hup)
      clear hcell hts hr
      go_wp2_with (go_at_call 52; refine HP.out.mono ?_; rintro e w1 ⟨v', rfl, hf1, hr1, hO1⟩)
      go_roundw
      case rel => exact ⟨i + 1, by omega, by go_num, fun b' h => (hf1 b' h).elim (HF.out b') (fun h2 => Nat.le_trans hO.size h2), by rw [HS.out]; exact hr1, hO.trans hO1⟩
      case measure => simp [intOf]; omega
    · obtain rfl : i = l.length := by omega
      rw [List.take_length] at hr
      go_wp2
      go_ret
      exact ⟨_, rfl, HF.out, hr, hO⟩
end Go.Proofs.YtdcinifcpaldiaaDoor
