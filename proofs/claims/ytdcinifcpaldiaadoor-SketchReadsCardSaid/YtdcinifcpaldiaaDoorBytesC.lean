/- The cursor's Bytes. No statement is proved here. -/
import Derived.Test.YtdcinifcpaldiaaDoorDecKK
namespace Go.Proofs.YtdcinifcpaldiaaDoor
open Go.RowKit

/-- Bytes that come, up to most: the bytes, the error, the rest. -/
def bytesC (most : Nat) (l : List Nat) : List Nat × Nat × List Nat :=
  if (numC most l).2.1 ≠ 0 then ([], (numC most l).2.1, []) else if (numC most l).2.2.length < (numC most l).1 then ([], 4, []) else ((numC most l).2.2.take (numC most l).1, 0, (numC most l).2.2.drop (numC most l).1)
set_option maxRecDepth 100000 in
theorem take_zero (cb bb e : Nat) (l : List Nat) (w : World) (h : Cur w cb bb e l) (hl : l.length ≤ 1000000) :
    Calls Tryd.prog 99 #[.pointer (some ⟨cb, 0, none⟩), .int .i64 0] w fun r w' => ∃ v, r = .returned v ∧ Rd w' v (u8s []) ∧ Cur w' cb bb e l ∧ Only (· = cb) w w' := by
  obtain ⟨hne, a, cap, hb, hc, hf⟩ := h
  have c0 := hb.cell 1 _ rfl
  have f0 := hb.free 1
  have key : ∀ (w' : World) (c' : Nat), Only (· = cb) w w' → Blk w' cb #[.int .i64 (e : Int), .slice a l.length c'] 126 → l.length ≤ c' → Cur w' cb bb e l := fun w' c' hO hB hcc => by
    refine ⟨hne, a, c', hB, hcc, fun hp => ?_⟩
    obtain ⟨o, ha, hbl, hcell⟩ := hf hp
    exact ⟨o, ha, Nat.lt_of_lt_of_le hbl hO.size, fun j u hu => (hO.cell (p := ⟨bb, o + j, none⟩) hbl (fun e => hne e.symm)).trans (hcell j u hu)⟩
  have K := Lib.hid key
  clear hf key
  have h3 : ¬ (l.length : Int) < 0 := by omega
  have hn0 : (0 : Int) ≤ (cap : Int) := by omega
  have hs := fun (v : Value) => hb.set 1 v
  have HS := Lib.hid hs
  clear hs hb
  rcases a with _ | ⟨ab, ao, asp⟩
  · go_enter Tryd.func99, Tryd.ntmps99
    go_wp2
    all_goals
      go_ret
      exact ⟨_, rfl, Rd.nil _ _ _, K.out _ cap ((Only.refl _ _).set1 _ _) (by simpa using HS.out _) hc, (Only.refl _ _).set1 _ _⟩
  · go_enter Tryd.func99, Tryd.ntmps99
    go_wp2
    all_goals
      go_ret
      exact ⟨_, rfl, Rd.nil _ _ _, K.out _ cap ((Only.refl _ _).set1 _ _) (by simpa using HS.out _) hc, (Only.refl _ _).set1 _ _⟩
theorem onceB_on (cb bb : Nat) (l : List Nat) (w : World) (fm : FuncId) (cm : Array Value) (ent : ∀ (args : Array Value) (W : World), (callFunc fm args).run Tryd.prog W = .ok (.enter fm args) W) (h : Cur w cb bb 0 l) (x l2 : List Nat) (e2 : Nat) (hx : e2 ≠ 0 → x = [])
    (hr : Calls Tryd.prog fm (#[.pointer (some ⟨cb, 0, none⟩)] ++ cm) w fun r w' => ∃ u, r = .returned u ∧ Rd w' u (u8s x) ∧ Cur w' cb bb e2 l2 ∧ Only (· = cb) w w') :
    Calls Tryd.prog 95 #[.pointer (some ⟨cb, 0, none⟩), .func (.func fm) #[] cm] w fun r w' => ∃ u, r = .returned u ∧ Rd w' u (u8s x) ∧ Cur w' cb bb e2 l2 ∧ Only (· = cb) w w' := by
  have H := Lib.hid (well_c cb bb 0 l w h)
  have H2 := Lib.hid hr
  clear hr
  by_cases he : e2 = 0
  · subst he
    have H3 := Lib.hid (fun W h => well_c cb bb 0 l2 W h)
    clear hx
    go_enter Tryd.func95, Tryd.ntmps95
    go_wp2_with (first
      | (go_at_call 98; ((with_reducible refine H.out.mono ?_); rintro r w' ⟨rfl, rfl⟩))
      | (go_at_call 98; ((with_reducible refine (H3.out w1 h1).mono ?_); rintro r w' ⟨rfl, rfl⟩))
      | (refine H2.out.mono ?_; rintro r w1 ⟨u, rfl, hu, h1, hO1⟩))
    go_ret
    exact ⟨_, rfl, hu, h1, hO1⟩
  · obtain rfl := hx he
    have H3 := Lib.hid (fun W h => well_c cb bb e2 l2 W h)
    have h10 : ((e2 : Int) == 0) = false := by simp; omega
    clear he hx
    go_enter Tryd.func95, Tryd.ntmps95
    go_wp2_with (first
      | (go_at_call 98; ((with_reducible refine H.out.mono ?_); rintro r w' ⟨rfl, rfl⟩))
      | (go_at_call 98; ((with_reducible refine (H3.out w1 h1).mono ?_); rintro r w' ⟨rfl, rfl⟩))
      | (refine H2.out.mono ?_; rintro r w1 ⟨u, rfl, hu, h1, hO1⟩))
    go_ret
    exact ⟨_, rfl, Rd.nil _ _ _, h1, hO1⟩
theorem take_any (cb bb n : Nat) (l : List Nat) (w : World) (h : Cur w cb bb 0 l) (hn : n ≤ 1000000) (hl : l.length ≤ 1000000) :
    Calls Tryd.prog 99 #[.pointer (some ⟨cb, 0, none⟩), .int .i64 (n : Int)] w fun r w' => ∃ v, r = .returned v ∧ Rd w' v (u8s (if l.length < n then [] else l.take n)) ∧ Cur w' cb bb (if l.length < n then 4 else 0) (if l.length < n then [] else l.drop n) ∧ Only (· = cb) w w' := by
  by_cases h1 : l.length < n
  · rw [if_pos h1, if_pos h1, if_pos h1]
    refine (take_short cb bb 0 n l w h h1 hn).mono ?_
    rintro r w' ⟨rfl, h2, hO⟩
    exact ⟨_, rfl, Rd.nil _ _ _, by simpa using h2, hO⟩
  · rw [if_neg h1, if_neg h1, if_neg h1]
    by_cases h0 : n = 0
    · subst h0
      refine (take_zero cb bb 0 l w h hl).mono ?_
      rintro r w' ⟨v, rfl, h2, h3, hO⟩
      exact ⟨v, rfl, by simpa using h2, by simpa using h3, hO⟩
    · refine (take_c cb bb 0 n l w h (by omega) (by omega) hl).mono ?_
      rintro r w' ⟨v, rfl, h2, -, h3, hO⟩
      exact ⟨v, rfl, h2, h3, hO⟩
set_option maxRecDepth 100000 in
set_option maxHeartbeats 1000000 in
theorem Bytes1_c (cb bb mb : Nat) (l : List Nat) (w : World) (h : Cur w cb bb 0 l) (hb : ∀ c ∈ l, c < 256) (hl : l.length ≤ 1000000) (hm : Blk w mb #[.int .i64 4096] 3) (hmc : mb ≠ cb) :
    Calls Tryd.prog 96 #[.pointer (some ⟨cb, 0, none⟩), .pointer (some ⟨mb, 0, none⟩)] w fun r w' => ∃ u, r = .returned u ∧ Rd w' u (u8s (bytesC 4096 l).1) ∧ Cur w' cb bb (bytesC 4096 l).2.1 (bytesC 4096 l).2.2 ∧ Only (· = cb) w w' := by
  obtain ⟨i0, hinf, hz0, hz1, hz2⟩ := info_parts info_u8
  have HN := Num_c cb bb 0 4096 l w h hb hl
  have e0 : numE 0 4096 l = numC 4096 l := if_pos rfl
  rw [e0] at HN
  have hrest := numC_rest (most := 4096) hb
  have hle := numC_le 4096 l
  unfold bytesC
  obtain ⟨n, e, r, hN⟩ : ∃ n e r, numC 4096 l = (n, e, r) := ⟨_, _, _, rfl⟩
  rw [hN] at HN hrest hle
  rw [hN]
  simp only at HN hrest hle ⊢
  have HNum := Lib.hid HN
  have c0 := hm.cell 0 _ rfl
  clear HN e0 hN hb hm
  by_cases he : e ≠ 0
  · rw [if_pos he]
    have hr0 := hrest.1 he
    subst hr0
    have HW := Lib.hid (fun W h => well_c cb bb e [] W h)
    have h10 : ((e : Int) == 0) = false := by simp; omega
    clear he hrest
    go_enter Tryd.func96, Tryd.ntmps96
    go_wp2_with (first
      | (go_at_call 97; refine HNum.out.mono ?_; rintro q w1 ⟨rfl, h1, hO1⟩)
      | (go_at_call 98; ((with_reducible refine (HW.out w1 h1).mono ?_); rintro q w' ⟨rfl, rfl⟩)))
    go_ret
    exact ⟨_, rfl, Rd.nil _ _ _, h1, hO1⟩
  · rw [if_neg he]
    obtain rfl : e = 0 := by omega
    have hrl := hrest.2.2
    have hrs : ∃ x e2 r2, (if r.length < n then (([] : List Nat), 4, ([] : List Nat)) else (r.take n, 0, r.drop n)) = (x, e2, r2) ∧ (if r.length < n then [] else r.take n) = x ∧ (if r.length < n then 4 else 0) = e2 ∧ (if r.length < n then [] else r.drop n) = r2 ∧ x.length ≤ r.length ∧ r2.length ≤ r.length := by
      by_cases hh : r.length < n
      · exact ⟨[], 4, [], by rw [if_pos hh], by rw [if_pos hh], by rw [if_pos hh], by rw [if_pos hh], by simp, by simp⟩
      · exact ⟨r.take n, 0, r.drop n, by rw [if_neg hh], by rw [if_neg hh], by rw [if_neg hh], by rw [if_neg hh], by rw [List.length_take]; omega, by rw [List.length_drop]; omega⟩
    obtain ⟨x, e2, r2, hx, hx1, hx2, hx3, hxl, hrl2⟩ := hrs
    rw [hx]
    have HT := fun (W : World) (h : Cur W cb bb 0 r) => take_any cb bb n r W h (by omega) (by omega)
    rw [hx1, hx2, hx3] at HT
    have HTk := Lib.hid HT
    have HW := Lib.hid (fun W h => well_c cb bb 0 r W h)
    clear he hrest hx hx1 hx2 hx3 HT
    go_enter Tryd.func96, Tryd.ntmps96
    go_wp2_with (first
      | (go_at_call 97; refine HNum.out.mono ?_; rintro q w1 ⟨rfl, h1, hO1⟩)
      | (go_at_call 98; ((with_reducible refine (HW.out w1 h1).mono ?_); rintro q w' ⟨rfl, rfl⟩))
      | (go_at_call 99; refine (HTk.out _ (h1.no ((Only.refl _ _).alloc _))).mono ?_; rintro q w2 ⟨v, rfl, hv, h2, hO2⟩; obtain ⟨va, vc, rfl, -⟩ := hv.cases; rw [u8s_len] at hv; simp only [u8s_len]; have hBE : Bun w2 w1.heap.size [(5, 1, .slice (some ⟨w1.heap.size, 0, none⟩) 0 0, 0, [])] := (Bun.empty w1 w1.heap.size 5 1 (Nat.le_refl _)).only (hO2.mono (fun k hk e => by exact e)) (fun k hk e => by have := h1.lt; have e' : k = cb := e; omega); have hz2' : w1.heap.size ≤ w2.heap.size := Nat.le_trans ((Only.refl No w1).alloc (.cells #[] 5)).size hO2.size; have HVV := Lib.hid hv.sized)
      | (at_builtin; refine wpList_appendL rfl (.tmp 13) (.tmp 17) 28 rfl w1.heap.size 5 i0 (.int .u8 0) 1 1 Tryd.underlying28 hinf hz0 hz1 hz2 rfl (by decide) _ hBE 0 _ 0 [] rfl rfl _ x.length (u8s x) rfl (by have := HVV.out; rw [u8s_len] at this; exact this) (by intro u hu; obtain ⟨y, _, rfl⟩ := List.mem_map.1 hu; rfl) (by unfold maxLen; omega) (by omega) hz2' ?_; intro a5 c5 w5 hB5 hO5 _))
    go_ret
    refine ⟨_, rfl, ?_, ?_, ?_⟩
    · have := Rd.of_row (hB5.owns 0 _ rfl)
      simpa [List.set] using this
    · exact h2.only' hO5 (by have := h1.lt; show ¬ w1.heap.size ≤ cb; omega) (fun hp => by have := h1.bb_lt (show 0 < r.length by omega); show ¬ w1.heap.size ≤ bb; omega)
    · exact (((hO1.trans ((Only.refl No w1).alloc _).of_no)).trans hO2).then hO5 (fun k hk e => by have := hO1.size; exfalso; have e' : w1.heap.size ≤ k := e; omega)
theorem bytesC_err {most : Nat} {l : List Nat} (h : (bytesC most l).2.1 ≠ 0) : (bytesC most l).1 = [] ∧ (bytesC most l).2.2 = [] := by
  unfold bytesC at h ⊢
  split
  · simp
  · split
    · simp
    · rename_i h1 h2
      rw [if_neg h1, if_neg h2] at h
      exact absurd rfl h
theorem bytesC_rest {l : List Nat} (hb : ∀ c ∈ l, c < 256) : (∀ c ∈ (bytesC 4096 l).1, c < 256) ∧ (∀ c ∈ (bytesC 4096 l).2.2, c < 256) ∧ (bytesC 4096 l).1.length ≤ l.length ∧ (bytesC 4096 l).2.2.length ≤ l.length := by
  have hr := numC_rest (most := 4096) hb
  unfold bytesC
  split
  · exact ⟨by simp, by simp, by simp, by simp⟩
  · split
    · exact ⟨by simp, by simp, by simp, by simp⟩
    · refine ⟨fun c hc => hr.2.1 c (List.mem_of_mem_take hc), fun c hc => hr.2.1 c (List.mem_of_mem_drop hc), ?_, ?_⟩
      · show (List.take _ _).length ≤ _
        rw [List.length_take]; have := hr.2.2; omega
      · show (List.drop _ _).length ≤ _
        rw [List.length_drop]; have := hr.2.2; omega
set_option maxRecDepth 100000 in
theorem Bytes_c (cb bb : Nat) (l : List Nat) (w : World) (h : Cur w cb bb 0 l) (hb : ∀ c ∈ l, c < 256) (hl : l.length ≤ 1000000) :
    Calls Tryd.prog 61 #[.pointer (some ⟨cb, 0, none⟩), .int .i64 4096] w fun r w' => ∃ u, r = .returned u ∧ Rd w' u (u8s (bytesC 4096 l).1) ∧ Cur w' cb bb (bytesC 4096 l).2.1 (bytesC 4096 l).2.2 ∧ Only (· = cb) w w' := by
  have ent := enters_of Tryd.func96 (by kernel_rfl) rfl
  have hO := (Only.refl No w).alloc (.cells #[.int .i64 4096] 3)
  have hbm := Blk.new w #[.int .i64 4096] 3
  have h1 := Bytes1_c cb bb w.heap.size l _ (h.no hO) hb hl hbm (by have := h.lt; omega)
  have h2 := onceB_on cb bb l _ 96 #[.pointer (some ⟨w.heap.size, 0, none⟩)] ent (h.no hO) _ _ _ (fun he => (bytesC_err he).1) h1
  have K := Lib.hid h2
  clear h1 h2 h hb
  generalize bytesC 4096 l = R at *
  go_enter Tryd.func61, Tryd.ntmps61
  go_wp2_with (go_at_call 95; refine K.out.mono ?_; rintro r w1 ⟨u, rfl, hu, h1, hO1⟩)
  go_ret
  exact ⟨_, rfl, hu, h1, hO.of_no.trans hO1⟩
end Go.Proofs.YtdcinifcpaldiaaDoor
