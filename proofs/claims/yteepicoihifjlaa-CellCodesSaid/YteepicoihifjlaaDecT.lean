/- table.Decode. No statement is proved here. -/
import Derived.Test.YteepicoihifjlaaNumC
import Derived.Test.YteepicoihifjlaaConcat
import Derived.Test.YteepicoihifjlaaBunUp
namespace Go.Proofs.Yteepicoihifjlaa
open Go.RowKit

theorem take_get {l : List Nat} {i : Nat} (hi : i < l.length) : getN (l.take (i + 1)) = getN (l.take i) + l[i] * 2 ^ (8 * i) := by
  rw [List.take_succ_eq_append_getElem hi, getN_snoc, List.length_take, Nat.min_eq_left (by omega)]
set_option maxRecDepth 100000 in
set_option maxHeartbeats 1000000 in
theorem word_t (pb cb bb : Nat) (l : List Nat) (w : World) (hp : Blk w pb #[.pointer (some ⟨cb, 0, none⟩)] 111) (hne : pb ≠ cb) (h : Cur w cb bb 0 l) (hb : ∀ c ∈ l, c < 256) (h8 : 8 ≤ l.length) (hl : l.length ≤ 1000000) :
    Calls Try.prog 98 #[.pointer (some ⟨pb, 0, none⟩)] w fun r w' => r = .returned (.int .u64 (get8 (l.take 8) : Nat)) ∧ Cur w' cb bb 0 (l.drop 8) ∧ Only (· = cb) w w' := by
  go_enter Try.func98, Try.ntmps98
  go_wp2
  go_loopw [1, 3] (fun v1 v3 wr => ∃ i x : Nat, i ≤ 8 ∧ v3 = .int .i64 i ∧ v1 = .int .u64 (x : Int) ∧ x = getN (l.take i) ∧ Cur wr cb bb 0 (l.drop i) ∧ Only (· = cb) w wr) (fun v1 v3 _ => 8 - (intOf v3).toNat)
  case atStart => exact ⟨0, 0, by omega, rfl, rfl, rfl, h, Only.refl _ _⟩
  case round =>
    obtain ⟨i, x, hi, rfl, rfl, hx, hC, hO⟩ := hrel
    by_cases hlt : i < 8
    · have hil : i < l.length := by omega
      rw [List.drop_eq_getElem_cons hil] at hC
      have hcb := hb l[i] (List.getElem_mem hil)
      have HT := Lib.hid (take_get hil)
      have hxl : x < 2 ^ (8 * i) := by
        have := getN_lt (l.take i) (fun c hc => hb c (List.mem_of_mem_take hc))
        rw [List.length_take, Nat.min_eq_left (by omega)] at this
        rw [hx]; exact this
      have hB := Byte_c cb bb 0 (l[i] :: l.drop (i + 1)) wr hC (by simp; omega)
      have eB : byteC 0 (l[i] :: l.drop (i + 1)) = (l[i], 0, l.drop (i + 1)) := rfl
      rw [eB] at hB
      generalize l[i] = c at *
      have HO := Lib.hid (or_byte (x := x) (c := c) (i := i) (by omega) hxl hcb)
      have HX := Lib.hid hx
      have HB := Lib.hid hB
      have hpw := hO.blk hp hne
      have c1 := hpw.cell 0 _ rfl
      clear hB eB hx hxl hb
      go_wp2_with (go_at_call 99; refine HB.out.mono ?_; rintro r w2 ⟨rfl, hC2, hO2⟩)
      go_roundw
      case rel => exact ⟨i + 1, x + c * 2 ^ (8 * i), by omega, by go_num, (congrArg (Value.int .u64) HO.out), by rw [HT.out, HX.out], hC2, hO.trans hO2⟩
      case measure => simp [intOf]; omega
    · have hin : i = 8 := by omega
      subst hin
      have HX8 := Lib.hid (show x = get8 (l.take 8) by rw [get8_get]; exact hx)
      clear hx
      go_wp2
      go_ret
      exact ⟨ret_eq (congrArg (Value.int .u64) (by rw [HX8.out])), hC, hO⟩
theorem numC_le (most : Nat) (l : List Nat) : (numC most l).1 ≤ most := by
  unfold numC
  split
  · simp
  · split
    · simp
    · simp; omega
theorem not_up {r : List Nat} {n i : Nat} (hi : 1 ≤ i) (hin : i < n) (h : at8 r i ≤ at8 r (i - 1)) : ¬ Up (eights r n) := by
  intro hu
  have h1 := List.pairwise_iff_getElem.1 hu (i - 1) i (by rw [eights_len]; omega) (by rw [eights_len]; omega) (by omega)
  simp only [eights, List.getElem_map, List.getElem_range] at h1
  omega
theorem up_snoc {l : List Nat} {x : Nat} (h : Up l) (hx : l = [] ∨ ∃ p, l.getLast? = some p ∧ p < x) : Up (l ++ [x]) := by
  refine List.pairwise_append.2 ⟨h, by simp, fun a ha b hb => ?_⟩
  simp at hb
  subst hb
  rcases hx with rfl | ⟨p, hp, hpx⟩
  · simp at ha
  · obtain ⟨ys, rfl⟩ := List.getLast?_eq_some_iff.1 hp
    rcases List.mem_append.1 ha with ha | ha
    · have := (List.pairwise_append.1 h).2.2 a ha p (by simp)
      omega
    · simp at ha
      omega
set_option maxRecDepth 100000 in
set_option maxHeartbeats 2000000 in
/-- No number comes, or too few bytes. -/
theorem Decode_off (v : Value) (l : List Nat) (n e2 : Nat) (w : World) (hR : Rd w v (u8s l)) (hb : ∀ c ∈ l, c < 256) (hl : l.length ≤ 1000000) (he2 : 1 ≤ e2) (h : (∃ r, numC 4096 l = (n, e2, r) ∧ r = []) ∨ (∃ r, numC 4096 l = (n, 0, r) ∧ r.length < 8 * n ∧ e2 = 4)) :
    Calls Try.prog 52 #[v] w fun r w' => ∃ u, r = .returned (.tuple #[u, .int .i64 (e2 : Int)]) ∧ Rd w' u (u64s []) ∧ Only No w w' := by
  have hn := numC_le 4096 l
  rcases h with ⟨r, hN, hr⟩ | ⟨r, hN, hr, he⟩
  · have hnn : n ≤ 4096 := by rw [hN] at hn; exact hn
    subst hr
    obtain ⟨a, cap, rfl, hcap⟩ := hR.cases
    simp only [u8s_len] at hR hcap ⊢
    have HFr := Lib.hid (From_c _ l w hR hl)
    go_enter Try.func52, Try.ntmps52
    go_wp2_with (go_at_call 93; refine HFr.out.mono ?_; rintro r w1 ⟨cb, rfl, hcw, ⟨bb, hbw, hC1⟩, hO1⟩)
    generalize hW2 : w1.alloc (.cells #[.pointer (some ⟨cb, 0, none⟩)] 111) = w2
    have hp2 : Blk w2 w1.heap.size #[.pointer (some ⟨cb, 0, none⟩)] 111 := by rw [← hW2]; exact Blk.new w1 _ _
    have hO2 : Only No w1 w2 := by rw [← hW2]; exact (Only.refl _ _).alloc _
    have hC2 := hC1.no hO2
    have hpc : w1.heap.size ≠ cb := by have := hC1.lt; omega
    have hOw2 := hO1.trans hO2
    have HNum := Lib.hid (Num_c cb bb 0 4096 l w2 hC2 hb hl)
    have c2 := hp2.cell 0 _ rfl
    generalize w1.heap.size = pb at *
    clear hW2 hC1 hR HFr
    have eN : numE 0 4096 l = (n, e2, []) := hN
    rw [eN] at HNum
    have hz0 : ((e2 : Int) == 0) = false := by simp; omega
    have HErr0 := Lib.hid (fun W (h : Cur W cb bb e2 []) => Err_c cb bb e2 [] W h)
    clear eN hN hn hb
    go_wp2_with (first
      | (go_at_call 94; refine HNum.out.mono ?_; rintro r w4 ⟨rfl, hC4, hO4⟩; have hp4 := hO4.blk hp2 hpc; have c3 := hp4.cell 0 _ rfl)
      | (go_at_call 95; refine (HErr0.out _ hC4).mono ?_; rintro r w' ⟨rfl, rfl⟩))
    have hOw4 : Only No w w4 := hOw2.then hO4 (fun i hi e => by exfalso; omega)
    clear c3 HErr0 HNum hz0 c2
    have HErr := Lib.hid (fun W (h : Cur W cb bb e2 []) => Err_c cb bb e2 [] W h)
    have HDone := Lib.hid (Done_c cb bb e2 [] w4 hC4)
    have hde : doneE e2 [] = e2 := if_pos rfl
    rw [hde] at HDone
    have hz1 : ((e2 : Int) == 0) = false := by simp; omega
    have hz2 : ((e2 : Int) != 0) = true := by simp; omega
    have c4 := hp4.cell 0 _ rfl
    clear hde
    go_loopw [7, 8] (fun v7 v8 wr => v7 = .slice none 0 0 ∧ v8 = .int .i64 0 ∧ wr = w4) (fun _ _ _ => 0)
    case atStart => exact ⟨rfl, rfl, rfl⟩
    case round =>
      obtain ⟨rfl, rfl, rfl⟩ := hrel
      by_cases hn0 : n = 0
      · have hn1 : ¬ (0 : Int) < (n : Int) := by omega
        clear hn0
        go_wp2_with (first
          | (go_at_call 100; refine HDone.out.mono ?_; rintro r w' ⟨rfl, rfl⟩))
        go_ret2
        exact ⟨_, rfl, Rd.nil _ _ _, hOw4⟩
      · have hn1 : (0 : Int) < (n : Int) := by omega
        clear hn0
        go_wp2_with (first
          | (go_at_call 95; refine (HErr.out _ hC4).mono ?_; rintro r w' ⟨rfl, rfl⟩)
          | (go_at_call 100; refine HDone.out.mono ?_; rintro r w' ⟨rfl, rfl⟩))
        go_ret2
        exact ⟨_, rfl, Rd.nil _ _ _, hOw4⟩
  · have hnn : n ≤ 4096 := by rw [hN] at hn; exact hn
    have HE4 := Lib.hid he
    clear he
    obtain ⟨a, cap, rfl, hcap⟩ := hR.cases
    simp only [u8s_len] at hR hcap ⊢
    have HFr := Lib.hid (From_c _ l w hR hl)
    go_enter Try.func52, Try.ntmps52
    go_wp2_with (go_at_call 93; refine HFr.out.mono ?_; rintro r w1 ⟨cb, rfl, hcw, ⟨bb, hbw, hC1⟩, hO1⟩)
    generalize hW2 : w1.alloc (.cells #[.pointer (some ⟨cb, 0, none⟩)] 111) = w2
    have hp2 : Blk w2 w1.heap.size #[.pointer (some ⟨cb, 0, none⟩)] 111 := by rw [← hW2]; exact Blk.new w1 _ _
    have hO2 : Only No w1 w2 := by rw [← hW2]; exact (Only.refl _ _).alloc _
    have hC2 := hC1.no hO2
    have hpc : w1.heap.size ≠ cb := by have := hC1.lt; omega
    have hOw2 := hO1.trans hO2
    have HNum := Lib.hid (Num_c cb bb 0 4096 l w2 hC2 hb hl)
    have c2 := hp2.cell 0 _ rfl
    generalize w1.heap.size = pb at *
    clear hW2 hC1 hR HFr
    have eN : numE 0 4096 l = (n, 0, r) := hN
    rw [eN] at HNum
    have hrl : (r.length : Int) < 8 * (n : Int) := by omega
    have HErr0 := Lib.hid (fun W (h : Cur W cb bb 0 r) => Err_c cb bb 0 r W h)
    have HLeft := Lib.hid (fun W (h : Cur W cb bb 0 r) => Left_c cb bb 0 r W h)
    have HFail := Lib.hid (fun W (h : Cur W cb bb 0 r) => Fail_c cb bb 0 4 r W h (by omega))
    rw [if_pos rfl] at HFail
    clear eN hN hn hb hr
    go_wp2_with (first
      | (go_at_call 94; refine HNum.out.mono ?_; rintro r w3 ⟨rfl, hC3, hO3⟩; have hp3 := hO3.blk hp2 hpc; have c3 := hp3.cell 0 _ rfl)
      | (go_at_call 95; refine (HErr0.out _ hC3).mono ?_; rintro r w' ⟨rfl, rfl⟩)
      | (go_at_call 96; refine (HLeft.out _ hC3).mono ?_; rintro r w' ⟨rfl, rfl⟩)
      | (go_at_call 97; refine (HFail.out _ hC3).mono ?_; rintro r w4 ⟨rfl, hC4, hO4⟩; have hp4 := hO4.blk hp3 hpc))
    have hOw4 : Only No w w4 := hOw2.then (hO3.trans hO4) (fun i hi e => by exfalso; omega)
    rw [← HE4.out] at hC4
    clear c3 HErr0 HNum HLeft HFail c2 hrl hC3 hp3
    have HErr := Lib.hid (fun W (h : Cur W cb bb e2 []) => Err_c cb bb e2 [] W h)
    have HDone := Lib.hid (Done_c cb bb e2 [] w4 hC4)
    have hde : doneE e2 [] = e2 := if_pos rfl
    rw [hde] at HDone
    have hz1 : ((e2 : Int) == 0) = false := by simp; omega
    have hz2 : ((e2 : Int) != 0) = true := by simp; omega
    have c4 := hp4.cell 0 _ rfl
    clear hde
    go_loopw [7, 8] (fun v7 v8 wr => v7 = .slice none 0 0 ∧ v8 = .int .i64 0 ∧ wr = w4) (fun _ _ _ => 0)
    case atStart => exact ⟨rfl, rfl, rfl⟩
    case round =>
      obtain ⟨rfl, rfl, rfl⟩ := hrel
      by_cases hn0 : n = 0
      · have hn1 : ¬ (0 : Int) < (n : Int) := by omega
        clear hn0
        go_wp2_with (first
          | (go_at_call 100; refine HDone.out.mono ?_; rintro r w' ⟨rfl, rfl⟩))
        go_ret2
        exact ⟨_, rfl, Rd.nil _ _ _, hOw4⟩
      · have hn1 : (0 : Int) < (n : Int) := by omega
        clear hn0
        go_wp2_with (first
          | (go_at_call 95; refine (HErr.out _ hC4).mono ?_; rintro r w' ⟨rfl, rfl⟩)
          | (go_at_call 100; refine HDone.out.mono ?_; rintro r w' ⟨rfl, rfl⟩))
        go_ret2
        exact ⟨_, rfl, Rd.nil _ _ _, hOw4⟩
theorem eights_get {r : List Nat} {n i : Nat} (h : i < n) : (eights r n)[i]? = some (at8 r i) := by
  unfold eights
  rw [List.getElem?_map, List.getElem?_range h]; rfl
theorem Cur.bb_lt {w : World} {cb bb e : Nat} {l : List Nat} (h : Cur w cb bb e l) (hp : 0 < l.length) : bb < w.heap.size := by
  obtain ⟨-, a, cap, -, -, hf⟩ := h
  obtain ⟨o, -, hl, -⟩ := hf hp
  exact hl
/-- What has been read so far: rising numbers, or the error. -/
def SoFar (wr : World) (cb bb n : Nat) (r : List Nat) (i : Nat) (ys : List Nat) : Prop :=
  (ys = eights r i ∧ Up ys ∧ Cur wr cb bb 0 (r.drop (8 * i))) ∨ (¬ Up (eights r n) ∧ Cur wr cb bb 3 [])
def OutOf (cb B : Nat) (k : Nat) : Prop := k = cb ∨ B ≤ k
set_option maxRecDepth 100000 in
set_option maxHeartbeats 4000000 in
theorem Decode_on (v : Value) (l r : List Nat) (n : Nat) (w : World) (hR : Rd w v (u8s l)) (hb : ∀ c ∈ l, c < 256) (hl : l.length ≤ 1000000) (hN : numC 4096 l = (n, 0, r)) (hr : 8 * n ≤ r.length) :
    Calls Try.prog 52 #[v] w fun q w' => ∃ u, q = .returned (.tuple #[u, .int .i64 ((decR n r).2 : Nat)]) ∧ Rd w' u (u64s (decR n r).1) ∧ Only No w w' := by
  have hnn : n ≤ 4096 := by have := numC_le 4096 l; rw [hN] at this; exact this
  obtain ⟨i1, hinf1, hy0, hy1, hy2⟩ := info_parts info_u64
  have hlr : l = varL n ++ r := (numC_ok hb hN).2
  have hbr : ∀ c ∈ r, c < 256 := fun c hc => hb c (by rw [hlr]; exact List.mem_append_right _ hc)
  have hrl : r.length ≤ 1000000 := by have := congrArg List.length hlr; rw [List.length_append] at this; omega
  obtain ⟨R, hRe⟩ : ∃ R, R = decR n r := ⟨_, rfl⟩
  have HRg := Lib.hid (fun (h : Up (eights r n) ∧ r.length = 8 * n) => show R = (eights r n, 0) by rw [hRe]; unfold decR; rw [if_neg (by omega), if_pos h])
  have HRb := Lib.hid (fun (h : ¬ (Up (eights r n) ∧ r.length = 8 * n)) => show R = ([], 3) by rw [hRe]; unfold decR; rw [if_neg (by omega), if_neg h])
  rw [← hRe]
  clear hRe hlr
  obtain ⟨a, cap, rfl, hcap⟩ := hR.cases
  simp only [u8s_len] at hR hcap ⊢
  have HFr := Lib.hid (From_c _ l w hR hl)
  go_enter Try.func52, Try.ntmps52
  go_wp2_with (go_at_call 93; refine HFr.out.mono ?_; rintro r w1 ⟨cb, rfl, hcw, ⟨bb, hbw, hC1⟩, hO1⟩)
  generalize hW2 : w1.alloc (.cells #[.pointer (some ⟨cb, 0, none⟩)] 111) = w2
  have hp2 : Blk w2 w1.heap.size #[.pointer (some ⟨cb, 0, none⟩)] 111 := by rw [← hW2]; exact Blk.new w1 _ _
  have hO2 : Only No w1 w2 := by rw [← hW2]; exact (Only.refl _ _).alloc _
  have hC2 := hC1.no hO2
  have hpc : w1.heap.size ≠ cb := by have := hC1.lt; omega
  have hOw2 := hO1.trans hO2
  have HNum := Lib.hid (Num_c cb bb 0 4096 l w2 hC2 hb hl)
  have c2 := hp2.cell 0 _ rfl
  generalize w1.heap.size = pb at *
  clear hW2 hC1 hR HFr
  have eN : numE 0 4096 l = (n, 0, r) := hN
  rw [eN] at HNum
  have hrz : ¬ (r.length : Int) < 8 * (n : Int) := by omega
  have HErr0 := Lib.hid (fun W (h : Cur W cb bb 0 r) => Err_c cb bb 0 r W h)
  have HLeft := Lib.hid (fun W (h : Cur W cb bb 0 r) => Left_c cb bb 0 r W h)
  have HB := Lib.hid (And.intro hbr (And.intro hrl hr))
  clear eN hN hb hr hbr hrl
  go_wp2_with (first
    | (go_at_call 94; refine HNum.out.mono ?_; rintro r w4 ⟨rfl, hC4, hO4⟩; have hp4 := hO4.blk hp2 hpc; have c4 := hp4.cell 0 _ rfl)
    | (go_at_call 95; refine (HErr0.out _ hC4).mono ?_; rintro r w' ⟨rfl, rfl⟩)
    | (go_at_call 96; refine (HLeft.out _ hC4).mono ?_; rintro r w' ⟨rfl, rfl⟩))
  have hOw4 : Only No w w4 := hOw2.then hO4 (fun i hi e => by exfalso; omega)
  have hz4 := hOw4.size
  have hcl := hC4.lt
  have HBL := Lib.hid (fun (h : 0 < n) => hC4.bb_lt (by have := HB.out.2.2; omega))
  have hpl := hp4.lt
  have ent := enters_of Try.func98 (by kernel_rfl) rfl
  clear HErr0 HNum HLeft c2 hrz
  go_loopw [7, 8] (fun v7 v8 wr => ∃ (i : Nat) (ys : List Nat), i ≤ n ∧ v8 = .int .i64 i ∧ ys.length = i ∧ Bun wr w4.heap.size [(23, 1, v7, ys.length, u64s ys)] ∧ Only (OutOf cb w4.heap.size) w4 wr ∧ SoFar wr cb bb n r i ys) (fun _ v8 _ => n - (intOf v8).toNat)
  case atStart => exact ⟨0, [], by omega, rfl, rfl, (Bun.nil _ _).cons_nil _ _, Only.refl _ _, .inl ⟨rfl, by simp, by simpa using hC4⟩⟩
  case round =>
    obtain ⟨i, ys, hi, rfl, hyl, hBn, hO, hS⟩ := hrel
    have hp := hO.blk hp4 (fun e => by rcases e with e | e <;> omega)
    have c5 := hp.cell 0 _ rfl
    have hOe : Only No w wr := ((hOw4.of_no (S := OutOf cb w4.heap.size)).trans hO).mono (fun k hk e => by rcases e with e | e <;> (exfalso; omega))
    obtain ⟨ya, yc, rfl⟩ := bun_is hBn 0 rfl
    have HYL := Lib.hid hyl
    have hy8 : ys.length ≤ 4096 := by omega
    clear c4 hC4 hO4 hp4 hOw4 hyl
    generalize wr = wk at *
    rcases hS with ⟨hys, hup, hC⟩ | ⟨hnu, hC⟩
    · by_cases hlt : i < n
      · have h8 : 8 ≤ (r.drop (8 * i)).length := by have := HB.out.2.2; rw [List.length_drop]; omega
        have HW := Lib.hid (fun (W : World) (hp : Blk W pb #[.pointer (some ⟨cb, 0, none⟩)] 111) (hC : Cur W cb bb 0 (r.drop (8 * i))) => word_t pb cb bb (r.drop (8 * i)) W hp hpc hC (fun c hc => HB.out.1 c (List.mem_of_mem_drop hc)) h8 (by have := HB.out.2.1; rw [List.length_drop]; omega))
        have e8 : get8 ((r.drop (8 * i)).take 8) = at8 r i := rfl
        have e9 : (r.drop (8 * i)).drop 8 = r.drop (8 * (i + 1)) := by rw [List.drop_drop, show 8 * (i + 1) = 8 * i + 8 by omega]
        rw [e8, e9] at HW
        have HErr := Lib.hid (Err_c cb bb 0 _ wk hC)
        obtain ⟨x, hx⟩ : ∃ x, x = at8 r i := ⟨_, rfl⟩
        rw [← hx] at HW
        have HX := Lib.hid hx
        have HYS := Lib.hid (And.intro hys hup)
        have hes : eights r (i + 1) = ys ++ [x] := by rw [eights_succ, hys, hx]
        have HES := Lib.hid hes
        have hi0 : (0 : Int) ≤ (i : Int) := by omega
        have hin : (i : Int) < (n : Int) := by omega
        clear hx hes e8 e9 h8 hys hup
        rcases Nat.eq_zero_or_pos i with h0 | h0
        · have hnz : ¬ (0 : Int) < (i : Int) := by omega
          have HH := Lib.hid h0
          clear h0
          go_wp2_with (first
            | (go_at_call 95; refine HErr.out.mono ?_; rintro r w' ⟨rfl, rfl⟩)
            | (at_builtin; refine wpList_append1o rfl (.tmp 54) (.tmp 56) 22 rfl w4.heap.size 23 i1 (.int .u64 0) 1 8 Try.underlying22 hinf1 hy0 hy1 hy2 rfl (by decide) _ hB5 0 _ _ _ rfl rfl [.int .u64 (x : Int)] _ _ rfl rfl rfl (by simp [Value.oneCell']) (by unfold maxLen; omega) (by omega) hz5 ?_; intro g6 d6 w6 hB6 hO6)
            | (refine (HW.out wk hp hC).mono ?_; rintro r w5 ⟨rfl, hC5, hO5⟩; have hB5 := hBn.only hO5 (fun k hk e => by omega); have hz5 : w4.heap.size ≤ w5.heap.size := Nat.le_trans hO.size hO5.size))
          go_roundw
          case rel =>
            have hC6 := hC5.only hO6 (fun e => by have := ((hB5.owns 0 _ rfl).lt e).1; omega) (fun e => by have := ((hB5.owns 0 _ rfl).lt e).1; have := HBL.out (by omega); omega)
            refine ⟨i + 1, ys ++ [x], by omega, by go_num, by have := HYL.out; simp; omega, by simpa [List.set, u64s_snoc] using hB6, (hO.trans (hO5.mono (fun k _ e => .inl e))).trans (hO6.mono (fun k _ e => .inr ((hB5.owns 0 _ rfl).lt e).1)), .inl ⟨HES.out.symm, up_snoc HYS.out.2 (.inl (by apply List.length_eq_zero_iff.1; have := HH.out; have := HYL.out; omega)), hC6⟩⟩
          case measure => simp [intOf]; omega
        · have hnz : (0 : Int) < (i : Int) := by omega
          obtain ⟨p, hp1⟩ : ∃ p, ys[i - 1]? = some p := ⟨_, List.getElem?_eq_getElem (by have := HYL.out; omega)⟩
          have hpp : p = at8 r (i - 1) := by rw [HYS.out.1, eights_get (by omega)] at hp1; exact (Option.some.inj hp1).symm
          have hlast : ys.getLast? = some p := by rw [List.getLast?_eq_getElem?, HYL.out]; exact hp1
          obtain ⟨gy, cy, ey, -, hgy, hcy⟩ := row_cell (hBn.owns 0 _ rfl) (show 0 < ys.length by have := HYL.out; omega)
          obtain ⟨rfl, rfl⟩ : ya = some ⟨gy, 0, none⟩ ∧ yc = cy := by simpa using ey
          have hgb := ((hBn.owns 0 _ rfl).lt (b := gy) rfl).1
          have cp : wk.cell? ⟨gy, i - 1, none⟩ = some (.int .u64 (p : Int)) := hcy (i - 1) _ (by simp [u64s, hp1])
          have hi1 : ((i : Int) - 1) = ((i - 1 : Nat) : Int) := by omega
          have hidx : i - 1 < ys.length := by have := HYL.out; omega
          have hidz : ((i - 1 : Nat) : Int) < (ys.length : Int) := by omega
          have hidz0 : (0 : Int) ≤ ((i - 1 : Nat) : Int) := by omega
          have HP := Lib.hid (And.intro hpp hlast)
          clear hpp hlast hp1 ey hcy
          by_cases hxp : x ≤ p
          · have hxz : (x : Int) ≤ (p : Int) := by omega
            have hnu : ¬ Up (eights r n) := not_up h0 hlt (by rw [← HX.out, ← HP.out.1]; exact hxp)
            have HNU := Lib.hid hnu
            clear hnu hxp
            go_wp2_with (first
              | (go_at_call 95; refine HErr.out.mono ?_; rintro r w' ⟨rfl, rfl⟩)
              | (go_at_call 97; refine (HF5.out).mono ?_; rintro r w55 ⟨rfl, hC55, hO55⟩; have hB55 := hB5.only hO55 (fun k hk e => by omega); have hz55 : w4.heap.size ≤ w55.heap.size := Nat.le_trans hz5 hO55.size)
              | (at_builtin; refine wpList_append1o rfl (.tmp 54) (.tmp 56) 22 rfl w4.heap.size 23 i1 (.int .u64 0) 1 8 Try.underlying22 hinf1 hy0 hy1 hy2 rfl (by decide) _ hB55 0 _ _ _ rfl rfl [.int .u64 (x : Int)] _ _ rfl rfl rfl (by simp [Value.oneCell']) (by unfold maxLen; omega) (by omega) hz55 ?_; intro g6 d6 w6 hB6 hO6)
              | (refine (HW.out wk hp hC).mono ?_; rintro r w5 ⟨rfl, hC5, hO5⟩; have hB5 := hBn.only hO5 (fun k hk e => by omega); have hz5 : w4.heap.size ≤ w5.heap.size := Nat.le_trans hO.size hO5.size; have cp5 := (hO5.cell (p := ⟨gy, i - 1, none⟩) hgy (fun e => by have e' : gy = cb := e; omega)).trans cp; have c55 := (hO5.blk hp hpc).cell 0 _ rfl; have HF5 := Lib.hid (Fail_c cb bb 0 3 _ w5 hC5 (by omega))))
            go_roundw
            case rel =>
              have hC6 := hC55.only hO6 (fun e => by have := ((hB55.owns 0 _ rfl).lt e).1; omega) (fun e => by have := ((hB55.owns 0 _ rfl).lt e).1; have := HBL.out (by omega); omega)
              refine ⟨i + 1, ys ++ [x], by omega, by go_num, by have := HYL.out; simp; omega, by simpa [List.set, u64s_snoc] using hB6, ((hO.trans (hO5.mono (fun k _ e => .inl e))).trans (hO55.mono (fun k _ e => .inl e))).trans (hO6.mono (fun k _ e => .inr ((hB55.owns 0 _ rfl).lt e).1)), .inr ⟨HNU.out, hC6⟩⟩
            case measure => simp [intOf]; omega
          · have hxz : ¬ (x : Int) ≤ (p : Int) := by omega
            have HXP := Lib.hid hxp
            clear hxp
            go_wp2_with (first
              | (go_at_call 95; refine HErr.out.mono ?_; rintro r w' ⟨rfl, rfl⟩)
              | (at_builtin; refine wpList_append1o rfl (.tmp 54) (.tmp 56) 22 rfl w4.heap.size 23 i1 (.int .u64 0) 1 8 Try.underlying22 hinf1 hy0 hy1 hy2 rfl (by decide) _ hB5 0 _ _ _ rfl rfl [.int .u64 (x : Int)] _ _ rfl rfl rfl (by simp [Value.oneCell']) (by unfold maxLen; omega) (by omega) hz5 ?_; intro g6 d6 w6 hB6 hO6)
              | (refine (HW.out wk hp hC).mono ?_; rintro r w5 ⟨rfl, hC5, hO5⟩; have hB5 := hBn.only hO5 (fun k hk e => by omega); have hz5 : w4.heap.size ≤ w5.heap.size := Nat.le_trans hO.size hO5.size; have cp5 := (hO5.cell (p := ⟨gy, i - 1, none⟩) hgy (fun e => by have e' : gy = cb := e; omega)).trans cp))
            go_roundw
            case rel =>
              have hC6 := hC5.only hO6 (fun e => by have := ((hB5.owns 0 _ rfl).lt e).1; omega) (fun e => by have := ((hB5.owns 0 _ rfl).lt e).1; have := HBL.out (by omega); omega)
              refine ⟨i + 1, ys ++ [x], by omega, by go_num, by have := HYL.out; simp; omega, by simpa [List.set, u64s_snoc] using hB6, (hO.trans (hO5.mono (fun k _ e => .inl e))).trans (hO6.mono (fun k _ e => .inr ((hB5.owns 0 _ rfl).lt e).1)), .inl ⟨HES.out.symm, up_snoc HYS.out.2 (.inr ⟨p, HP.out.2, by have := HXP.out; omega⟩), hC6⟩⟩
            case measure => simp [intOf]; omega
      · have hin : i = n := by omega
        subst hin
        have hnl : ¬ (i : Int) < (i : Int) := by omega
        by_cases hrn : r.length = 8 * i
        · have hR0 : R = (eights r i, 0) := HRg.out ⟨by rw [← hys]; exact hup, hrn⟩
          subst hR0
          have hd : r.drop (8 * i) = [] := List.drop_eq_nil_of_le (by omega)
          rw [hd] at hC
          have HD0 := Lib.hid (Done_c cb bb 0 [] wk hC)
          have hde : doneE 0 [] = 0 := rfl
          rw [hde] at HD0
          have hRy := Rd.of_row (hBn.owns 0 _ rfl)
          have HY := Lib.hid hys
          clear hd hde hys hup hrn
          go_wp2_with (first
            | (go_at_call 100; refine HD0.out.mono ?_; rintro r w' ⟨rfl, rfl⟩))
          go_ret2
          exact ⟨_, rfl, by rw [← HY.out]; exact hRy, hOe⟩
        · have hR3 : R = ([], 3) := HRb.out (fun h => hrn h.2)
          subst hR3
          have HD3 := Lib.hid (Done_c cb bb 0 _ wk hC)
          have hde : doneE 0 (r.drop (8 * i)) = 3 := if_neg (fun e => hrn (by have := List.drop_eq_nil_iff.1 e; have := HB.out.2.2; omega))
          rw [hde] at HD3
          clear hde hrn hys hup
          go_wp2_with (first
            | (go_at_call 100; refine HD3.out.mono ?_; rintro r w' ⟨rfl, rfl⟩))
          go_ret2
          exact ⟨_, rfl, Rd.nil _ _ _, hOe⟩
    · have HD3 := Lib.hid (Done_c cb bb 3 [] wk hC)
      have hde : doneE 3 [] = 3 := rfl
      rw [hde] at HD3
      clear hde
      by_cases hlt : i < n
      · have hin : (i : Int) < (n : Int) := by omega
        have hR3 : R = ([], 3) := HRb.out (fun h => hnu h.1)
        subst hR3
        go_wp2_with (first
          | (go_at_call 95; refine (Err_c cb bb 3 [] _ hC).mono ?_; rintro r w' ⟨rfl, rfl⟩)
          | (go_at_call 100; refine HD3.out.mono ?_; rintro r w' ⟨rfl, rfl⟩))
        go_ret2
        exact ⟨_, rfl, Rd.nil _ _ _, hOe⟩
      · have hin : ¬ (i : Int) < (n : Int) := by omega
        have hR3 : R = ([], 3) := HRb.out (fun h => hnu h.1)
        subst hR3
        go_wp2_with (first
          | (go_at_call 95; refine (Err_c cb bb 3 [] _ hC).mono ?_; rintro r w' ⟨rfl, rfl⟩)
          | (go_at_call 100; refine HD3.out.mono ?_; rintro r w' ⟨rfl, rfl⟩))
        go_ret2
        exact ⟨_, rfl, Rd.nil _ _ _, hOe⟩
theorem Decode_c (v : Value) (l : List Nat) (w : World) (hR : Rd w v (u8s l)) (hb : ∀ c ∈ l, c < 256) (hl : l.length ≤ 1000000) :
    Calls Try.prog 52 #[v] w fun q w' => ∃ u, q = .returned (.tuple #[u, .int .i64 ((decT l).2 : Nat)]) ∧ Rd w' u (u64s (decT l).1) ∧ Only No w w' := by
  obtain ⟨n, e, r, hN⟩ : ∃ n e r, numC 4096 l = (n, e, r) := ⟨_, _, _, rfl⟩
  by_cases he : e = 0
  · subst he
    have hd : decT l = decR n r := by unfold decT; rw [hN]; rfl
    rw [hd]
    by_cases hr : r.length < 8 * n
    · have h3 : decR n r = ([], 4) := by unfold decR; rw [if_pos hr]
      rw [h3]
      exact Decode_off v l n 4 w hR hb hl (by omega) (.inr ⟨r, hN, hr, rfl⟩)
    · exact Decode_on v l r n w hR hb hl hN (by omega)
  · have hd : decT l = ([], e) := by unfold decT; rw [hN]; simp [he]
    rw [hd]
    refine Decode_off v l n e w hR hb hl (by omega) (.inl ⟨r, hN, ?_⟩)
    have := numC_err (most := 4096) (b := l) (by rw [hN]; exact he)
    rw [hN] at this
    simp at this
    exact this.2
end Go.Proofs.Yteepicoihifjlaa
