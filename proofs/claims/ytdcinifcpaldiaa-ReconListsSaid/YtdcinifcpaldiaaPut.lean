/- The document's put, Rise, Sift over numbers. No statement is proved here. -/
import Derived.Test.YtdcinifcpaldiaaRef20
namespace Go.Proofs.Ytdcinifcpaldiaa
open Go.RowKit Go.Maps

theorem ins_snoc {x y : Nat} (l : List Nat) (h : x < y) : ins x (l ++ [y]) = ins x l ++ [y] := by
  unfold ins
  rw [List.filter_append, List.filter_append, List.filter_cons_of_neg (by simp; omega), List.filter_cons_of_pos (by simpa using h)]
  simp
/-- What put has gathered of those it has looked at. -/
def gath (D : Bool) (x : Nat) (l : List Nat) : List Nat := match D with | true => ins x l | false => l
def PutOk (D : Bool) (x : Nat) (l : List Nat) : Prop := match D with | true => ∃ y ∈ l, x < y | false => ∀ y ∈ l, y < x
set_option maxRecDepth 100000 in
set_option maxHeartbeats 2000000 in
theorem put_c (v : Value) (l : List Nat) (x : Nat) (w : World) (hR : Rd w v (u64s l)) (hl : l.length ≤ 1000000) (hup : Up l) :
    Calls Try.prog 31 #[v, .int .u64 (x : Int)] w fun e w' => ∃ v', e = .returned v' ∧ Rd w' v' (u64s (ins x l)) ∧ Only No w w' := by
  obtain ⟨a, cap, rfl, hcap⟩ := hR.cases
  rw [u64s_len] at *
  obtain ⟨i0, hinf, hz0, hz1, hz2⟩ := info_parts info_u64
  go_enter Try.func31, Try.ntmps31
  go_wp2
  go_loopw [5, 6, 7] (fun v5 v6 v7 wr => ∃ (i : Nat) (D : Bool), i ≤ l.length ∧ v7 = .int .i64 i ∧ v6 = .bool D ∧ PutOk D x (l.take i) ∧
      Bun wr w.heap.size [(32, 1, v5, (gath D x (l.take i)).length, u64s (gath D x (l.take i)))] ∧ Only (fun k => w.heap.size ≤ k) w wr) (fun _ _ v7 _ => l.length - (intOf v7).toNat)
  case atStart => exact ⟨0, false, by omega, rfl, rfl, by simp [PutOk], by simpa [gath, u64s] using (Bun.nil w w.heap.size).cons_nil 32 1, Only.refl _ _⟩
  case round =>
    obtain ⟨i, D, hi, rfl, rfl, hok, hB, hO⟩ := hrel
    obtain ⟨a5, c5, rfl⟩ := bun_is hB 0 rfl
    by_cases hlt : i < l.length
    · obtain ⟨-, b, off, rfl, hbl, hcell⟩ := hR.at (by rw [u64s_len]; omega)
      have hc2 := (hO.cell (p := ⟨b, off + i, none⟩) hbl (by show ¬ w.heap.size ≤ b; omega)).trans (hcell i _ (u64s_get hlt))
      have hts : l.take (i + 1) = l.take i ++ [l[i]] := List.take_succ_eq_append_getElem hlt
      have hbel : ∀ y ∈ l.take i, y < l[i] := by
        intro y hy
        obtain ⟨j, hj, rfl⟩ := List.mem_iff_getElem.1 hy
        have hj' : j < i := by simp at hj; omega
        rw [List.getElem_take]
        exact List.pairwise_iff_getElem.1 hup j i (by omega) hlt hj'
      have hmem : l[i] = x → ins x l = l := fun e => ins_mem hup (by rw [← e]; exact List.getElem_mem hlt)
      have hg1 : (gath D x (l.take i)).length ≤ 1000000 := by
        have h1 : (l.take i).length < l.length := by simp; omega
        cases D
        · show (l.take i).length ≤ _; omega
        · have := ins_len x (l.take i); show (ins x (l.take i)).length ≤ _; omega
      have HM := Lib.hid hmem
      generalize l[i] = y at *
      generalize hp : l.take i = p at *
      clear hcell hmem
      rcases Nat.lt_trichotomy y x with hyx | hyx | hyx
      · -- y < x: nothing yet
        have hD : D = false := by
          cases D with
          | false => rfl
          | true => obtain ⟨z, hz, hxz⟩ := hok; have := hbel z hz; omega
        subst hD
        have HS := Lib.hid (And.intro hts hok)
        clear hts hok hbel hp
        have e1 : ((y : Int) == (x : Int)) = false := by simp; omega
        go_wp2_with (at_builtin; refine wpList_append1 rfl (.tmp 35) (.tmp 40) 22 rfl w.heap.size 32 i0 (.int .u64 0) 1 8 Try.underlying22 hinf hz0 hz1 hz2 rfl (by decide) _ hB 0 _ _ _ rfl rfl [.int .u64 (y : Int)] _ _ rfl rfl rfl (by simp [Value.oneCell']) (by unfold maxLen; omega) (by omega) hO.size ?_; intro g cap1 wn hBn hOn)
        go_roundw
        case rel =>
          refine ⟨i + 1, false, by omega, by go_num, rfl, ?_, ?_, hO.trans hOn⟩
          · rw [HS.out.1]
            intro z hz
            rcases List.mem_append.1 hz with hz | hz
            · exact HS.out.2 z hz
            · simp at hz; omega
          · rw [HS.out.1]
            simpa [gath, u64s_snoc, List.set] using hBn
        case measure => simp [intOf]; omega
      · subst hyx
        go_wp2
        go_ret
        exact ⟨_, rfl, by rw [HM.out trivial]; exact hR.only hO (fun b' hb' hb2 hs => by omega), hO.then (T := No) (Only.refl _ _) (fun _ _ h => h.elim) |>.mono (fun k hk hs => by omega)⟩
      · have e1 : ((y : Int) == (x : Int)) = false := by simp; omega
        cases D with
        | true =>
          have HS := Lib.hid (And.intro hts hok)
          clear hts hok hbel hp
          go_wp2_with (at_builtin; refine wpList_append1 rfl (.tmp 35) (.tmp 40) 22 rfl w.heap.size 32 i0 (.int .u64 0) 1 8 Try.underlying22 hinf hz0 hz1 hz2 rfl (by decide) _ hB 0 _ _ _ rfl rfl [.int .u64 (y : Int)] _ _ rfl rfl rfl (by simp [Value.oneCell']) (by unfold maxLen; omega) (by omega) hO.size ?_; intro g cap1 wn hBn hOn)
          go_roundw
          case rel =>
            refine ⟨i + 1, true, by omega, by go_num, rfl, ?_, ?_, hO.trans hOn⟩
            · rw [HS.out.1]
              obtain ⟨z, hz, hxz⟩ := HS.out.2
              exact ⟨z, List.mem_append_left _ hz, hxz⟩
            · rw [HS.out.1]
              show Bun _ _ [(_, _, _, (ins x (p ++ [y])).length, u64s (ins x (p ++ [y])))]
              rw [ins_snoc p hyx]
              simpa [gath, u64s_snoc, List.set] using hBn
          case measure => simp [intOf]; omega
        | false =>
          have hia : ins x p = p ++ [x] := ins_last hok
          have HS := Lib.hid (And.intro hts hia)
          clear hts hok hbel hp hia
          go_wp2_with (first
            | (at_builtin; refine wpList_append1 rfl (.tmp 31) (.tmp 33) 22 rfl w.heap.size 32 i0 (.int .u64 0) 1 8 Try.underlying22 hinf hz0 hz1 hz2 rfl (by decide) _ hB 0 _ _ _ rfl rfl [.int .u64 (x : Int)] _ _ rfl rfl rfl (by simp [Value.oneCell']) (by unfold maxLen; omega) (by omega) hO.size ?_; intro g cap1 wn hBn hOn; have hc3 := (hOn.cell (p := ⟨b, off + i, none⟩) (Nat.lt_of_lt_of_le hbl hO.size) (by show ¬ w.heap.size ≤ b; omega)).trans hc2)
            | (at_builtin; refine wpList_append1 rfl (.tmp 35) (.tmp 40) 22 rfl w.heap.size 32 i0 (.int .u64 0) 1 8 Try.underlying22 hinf hz0 hz1 hz2 rfl (by decide) _ hBn 0 _ _ _ rfl rfl [.int .u64 (y : Int)] _ _ rfl rfl rfl (by simp [Value.oneCell']) (by unfold maxLen; omega) (by omega) (Nat.le_trans hO.size hOn.size) ?_; intro g2 cap2 wn2 hBn2 hOn2))
          go_roundw
          case rel =>
            refine ⟨i + 1, true, by omega, by go_num, rfl, ?_, ?_, (hO.trans hOn).trans hOn2⟩
            · rw [HS.out.1]
              exact ⟨y, by simp, hyx⟩
            · rw [HS.out.1]
              show Bun _ _ [(_, _, _, (ins x (p ++ [y])).length, u64s (ins x (p ++ [y])))]
              rw [ins_snoc p hyx, HS.out.2]
              simpa [gath, u64s, List.set] using hBn2
          case measure => simp [intOf]; omega
    · have : i = l.length := by omega
      subst this
      rw [List.take_length] at hok hB ⊢
      cases D with
      | true =>
        go_wp2
        go_ret
        exact ⟨_, rfl, Rd.of_row (hB.owns 0 _ rfl), hO.mono (fun k hk hs => by omega)⟩
      | false =>
        have hia : ins x l = l ++ [x] := ins_last hok
        have HS := Lib.hid hia
        have hg : (gath false x l).length ≤ 1000000 := hl
        clear hia hok
        go_wp2_with (at_builtin; refine wpList_append1 rfl (.tmp 44) (.tmp 46) 22 rfl w.heap.size 32 i0 (.int .u64 0) 1 8 Try.underlying22 hinf hz0 hz1 hz2 rfl (by decide) _ hB 0 _ _ _ rfl rfl [.int .u64 (x : Int)] _ _ rfl rfl rfl (by simp [Value.oneCell']) (by unfold maxLen; omega) (by omega) hO.size ?_; intro g cap1 wn hBn hOn)
        go_ret
        refine ⟨_, rfl, ?_, (hO.trans hOn).mono (fun k hk hs => by omega)⟩
        rw [HS.out]
        have := Rd.of_row (hBn.owns 0 _ rfl)
        simpa [gath, u64s_snoc] using this
end Go.Proofs.Ytdcinifcpaldiaa
