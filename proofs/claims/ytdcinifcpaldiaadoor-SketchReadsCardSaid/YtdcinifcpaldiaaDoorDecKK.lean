/- cell.Decode. cell.Decode: the whole. cell.Decode: what is no list of cells, and the whole. The document's Decode of cells. The document's Decode of cells: the whole. No statement is proved here. -/
import Derived.Test.YtdcinifcpaldiaaDoorEncK
import Derived.Test.YtdcinifcpaldiaaDoorDecT
import Derived.Lib.Zigzag
import Derived.Test.YtdcinifcpaldiaaDoorRdecT

namespace Go.Proofs.YtdcinifcpaldiaaDoor
open Go.RowKit

theorem xor_comm64 (a b : Int) : bits .xor .i64 a b = bits .xor .i64 b a := by
  show IntKind.i64.wrap ((BitVec.ofInt 64 a ^^^ BitVec.ofInt 64 b).toNat : Int) = IntKind.i64.wrap ((BitVec.ofInt 64 b ^^^ BitVec.ofInt 64 a).toNat : Int)
  rw [BitVec.xor_comm]
theorem xor_zero64 (a : Nat) (h : a < 9223372036854775808) : bits .xor .i64 (a : Int) 0 = (a : Int) := by
  show IntKind.i64.wrap ((BitVec.ofInt 64 (a : Int) ^^^ BitVec.ofInt 64 0).toNat : Int) = _
  have h2 : (BitVec.ofInt 64 (a : Int)).toNat = a := by
    rw [BitVec.ofInt_natCast, BitVec.toNat_ofNat]; exact Nat.mod_eq_of_lt (by omega)
  have h3 : (BitVec.ofInt 64 0).toNat = 0 := by decide
  rw [BitVec.toNat_xor, h2, h3, Nat.xor_zero, IntKind.wrap_i64]
  omega
theorem not64 (a : Nat) (h : a < 9223372036854775808) : bits .xor .i64 (a : Int) (-1) = -(a : Int) - 1 := by
  rw [xor_comm64, Lib.i64_not a h]
theorem zag_even {x : Nat} (h : x % 2 = 0) : zag x = ((x / 2 : Nat) : Int) := by unfold zag; rw [if_pos h]
theorem zag_odd {x : Nat} (h : ¬ x % 2 = 0) : zag x = -((x / 2 : Nat) : Int) - 1 := by unfold zag; rw [if_neg h]
set_option maxRecDepth 100000 in
theorem Zag_c (x : Nat) (w : World) (h : x ≤ 4294967295) : Calls Tryd.prog 104 #[.int .u64 (x : Int)] w fun r w' => r = .returned (.int .i64 (zag x)) ∧ w = w' := by
  have ha : bits .and .u64 (x : Int) 1 = (x : Int) % 2 := Lib.u64_and1 _ (by omega) (by omega)
  by_cases hx : x % 2 = 0
  · have hz := Lib.hid (zag_even hx)
    have h0 : (x : Int) % 2 = 0 := by omega
    rw [h0] at ha
    clear h0 hx
    go_enter Tryd.func104, Tryd.ntmps104
    go_wp2
    go_ret
    refine ⟨ret_eq (congrArg (Value.int .i64) ?_), rfl⟩
    have e1 := xor_zero64 (x / 2) (by omega)
    rw [hz.out]
    simpa using e1
  · have hz := Lib.hid (zag_odd hx)
    have h0 : (x : Int) % 2 = 1 := by omega
    rw [h0] at ha
    clear h0 hx
    go_enter Tryd.func104, Tryd.ntmps104
    go_wp2
    go_ret
    refine ⟨ret_eq (congrArg (Value.int .i64) ?_), rfl⟩
    have e1 := not64 (x / 2) (by omega)
    rw [hz.out]
    simpa using e1
set_option maxRecDepth 100000 in
theorem rZag_c (x : Nat) (w : World) (h : x ≤ 4294967295) : Calls Tryd.prog 108 #[.int .u64 (x : Int)] w fun r w' => r = .returned (.int .i64 (zag x)) ∧ w = w' := by
  by_cases hx : x % 2 = 0
  · have hz := Lib.hid (zag_even hx)
    have h0 : (x : Int) % 2 = 0 := by omega
    clear hx
    go_enter Tryd.func108, Tryd.ntmps108
    go_wp2
    go_ret
    exact ⟨ret_eq (congrArg (Value.int .i64) (by rw [hz.out]; simp)), rfl⟩
  · have hz := Lib.hid (zag_odd hx)
    have h0 : (x : Int) % 2 = 1 := by omega
    clear hx
    go_enter Tryd.func108, Tryd.ntmps108
    go_wp2
    go_ret
    exact ⟨ret_eq (congrArg (Value.int .i64) (by rw [hz.out]; simp)), rfl⟩
set_option maxRecDepth 100000 in
set_option maxHeartbeats 1000000 in
theorem word_k (pb cb bb : Nat) (l : List Nat) (w : World) (hp : Blk w pb #[.pointer (some ⟨cb, 0, none⟩)] 83) (hne : pb ≠ cb) (h : Cur w cb bb 0 l) (hb : ∀ c ∈ l, c < 256) (h8 : 8 ≤ l.length) (hl : l.length ≤ 1000000) :
    Calls Tryd.prog 101 #[.pointer (some ⟨pb, 0, none⟩)] w fun r w' => r = .returned (.int .u64 (get8 (l.take 8) : Nat)) ∧ Cur w' cb bb 0 (l.drop 8) ∧ Only (· = cb) w w' := by
  have HL := Lib.hid (Left_c cb bb 0 l w h)
  have h8z : ¬ (l.length : Int) < 8 := by omega
  have p0 := hp.cell 0 _ rfl
  go_enter Tryd.func101, Tryd.ntmps101
  go_wp2_with (go_at_call 102; refine HL.out.mono ?_; rintro r w' ⟨rfl, rfl⟩)
  go_loopw [1, 8] (fun v1 v8 wr => ∃ i x : Nat, i ≤ 8 ∧ v8 = .int .i64 i ∧ v1 = .int .u64 (x : Int) ∧ x = getN (l.take i) ∧ Cur wr cb bb 0 (l.drop i) ∧ Only (· = cb) w wr) (fun v1 v8 _ => 8 - (intOf v8).toNat)
  case atStart => exact ⟨0, 0, by omega, rfl, rfl, rfl, h, Only.refl _ _⟩
  case round =>
    obtain ⟨i, x, hi, rfl, rfl, hx, hC, hO⟩ := hrel
    by_cases hlt : i < 8
    · have hil : i < l.length := by omega
      rw [List.drop_eq_getElem_cons hil] at hC
      have hcb := hb l[i] (List.getElem_mem hil)
      have HT := Lib.hid (take_get hil)
      have hxl : x < 2 ^ (8 * i) := by
        have := getN_lt (l.take i) (fun c hc => hb c (List.mem_of_mem_take hc))
        rw [List.length_take, Nat.min_eq_left (by omega)] at this
        rw [hx]; exact this
      have hB := Byte_c cb bb 0 (l[i] :: l.drop (i + 1)) wr hC (by simp; omega)
      have eB : byteC 0 (l[i] :: l.drop (i + 1)) = (l[i], 0, l.drop (i + 1)) := rfl
      rw [eB] at hB
      generalize l[i] = c at *
      have HO := Lib.hid (or_byte (x := x) (c := c) (i := i) (by omega) hxl hcb)
      have HX := Lib.hid hx
      have HB := Lib.hid hB
      have hpw := hO.blk hp hne
      have c1 := hpw.cell 0 _ rfl
      clear hB eB hx hxl hb
      go_wp2_with (go_at_call 103; refine HB.out.mono ?_; rintro r w2 ⟨rfl, hC2, hO2⟩)
      go_roundw
      case rel => exact ⟨i + 1, x + c * 2 ^ (8 * i), by omega, by go_num, (congrArg (Value.int .u64) HO.out), by rw [HT.out, HX.out], hC2, hO.trans hO2⟩
      case measure => simp [intOf]; omega
    · have hin : i = 8 := by omega
      subst hin
      have HX8 := Lib.hid (show x = get8 (l.take 8) by rw [get8_get]; exact hx)
      clear hx
      go_wp2
      go_ret
      exact ⟨ret_eq (congrArg (Value.int .u64) (by rw [HX8.out])), hC, hO⟩
theorem shl_zero (i : Nat) : IntKind.u64.wrap (0 * 2 ^ (8 * i)) = 0 := by rw [Int.zero_mul, IntKind.wrap_u64]; rfl
set_option maxRecDepth 100000 in
set_option maxHeartbeats 1000000 in
theorem word_short (pb cb bb e : Nat) (l : List Nat) (w : World) (hp : Blk w pb #[.pointer (some ⟨cb, 0, none⟩)] 83) (hne : pb ≠ cb) (h : Cur w cb bb e l) (h8 : l.length < 8) :
    Calls Tryd.prog 101 #[.pointer (some ⟨pb, 0, none⟩)] w fun r w' => r = .returned (.int .u64 0) ∧ Cur w' cb bb (if e = 0 then 4 else e) [] ∧ Only (· = cb) w w' := by
  have HL := Lib.hid (Left_c cb bb e l w h)
  have HF := Lib.hid (Fail_c cb bb e 4 l w h (by omega))
  have h8z : (l.length : Int) < 8 := by omega
  have p0 := hp.cell 0 _ rfl
  obtain ⟨e2, he2⟩ : ∃ e2, e2 = (if e = 0 then 4 else e) := ⟨_, rfl⟩
  have h2 : 1 ≤ e2 := by rw [he2]; split <;> omega
  rw [← he2] at HF ⊢
  clear he2
  go_enter Tryd.func101, Tryd.ntmps101
  go_wp2_with (first
    | (go_at_call 102; refine HL.out.mono ?_; rintro r w' ⟨rfl, rfl⟩)
    | (go_at_call 100; refine HF.out.mono ?_; rintro r w1 ⟨rfl, hC1, hO1⟩))
  go_loopw [1, 8] (fun v1 v8 wr => ∃ i : Nat, i ≤ 8 ∧ v8 = .int .i64 i ∧ v1 = .int .u64 0 ∧ Cur wr cb bb e2 [] ∧ Only (· = cb) w wr) (fun v1 v8 _ => 8 - (intOf v8).toNat)
  case atStart => exact ⟨0, by omega, rfl, rfl, hC1, hO1⟩
  case round =>
    obtain ⟨i, hi, rfl, rfl, hC, hO⟩ := hrel
    by_cases hlt : i < 8
    · have hB := Byte_c cb bb e2 [] wr hC (by simp)
      have eB : byteC e2 [] = (0, e2, []) := by unfold byteC; rw [if_neg (by omega)]
      rw [eB] at hB
      have HB := Lib.hid hB
      have hpw := hO.blk hp hne
      have c1 := hpw.cell 0 _ rfl
      have HO := Lib.hid (or_byte (x := 0) (c := 0) (i := i) (by omega) (Nat.two_pow_pos _) (by omega))
      clear hB eB
      go_wp2_with (go_at_call 103; refine HB.out.mono ?_; rintro r w2 ⟨rfl, hC2, hO2⟩)
      go_roundw
      case rel => exact ⟨i + 1, by omega, by go_num, (congrArg (Value.int .u64) (by have := HO.out; simpa [IntKind.wrap_u64] using this)), hC2, hO.trans hO2⟩
      case measure => simp [intOf]; omega
    · have hin : i = 8 := by omega
      subst hin
      go_wp2
      go_ret
      exact ⟨rfl, hC, hO⟩
/-- A word, of a cursor that is well, or else has nothing more. -/
theorem word_c (pb cb bb e : Nat) (l : List Nat) (w : World) (hp : Blk w pb #[.pointer (some ⟨cb, 0, none⟩)] 83) (hne : pb ≠ cb) (h : Cur w cb bb e l) (he : e ≠ 0 → l = []) (hb : ∀ c ∈ l, c < 256) (hl : l.length ≤ 1000000) :
    Calls Tryd.prog 101 #[.pointer (some ⟨pb, 0, none⟩)] w fun r w' => r = .returned (.int .u64 ((word8 e l).1 : Nat)) ∧ Cur w' cb bb (word8 e l).2.1 (word8 e l).2.2 ∧ Only (· = cb) w w' := by
  by_cases h0 : e = 0
  · subst h0
    by_cases h8 : l.length < 8
    · have e1 : word8 0 l = (0, 4, []) := by unfold word8; rw [if_neg (by simp), if_pos h8]
      rw [e1]
      exact word_short pb cb bb 0 l w hp hne h h8
    · have e1 : word8 0 l = (get8 (l.take 8), 0, l.drop 8) := by unfold word8; rw [if_neg (by simp), if_neg h8]
      rw [e1]
      exact word_k pb cb bb l w hp hne h hb (by omega) hl
  · have hle := he h0
    subst hle
    have e1 : word8 e [] = (0, e, []) := by unfold word8; rw [if_pos h0]
    rw [e1]
    have := word_short pb cb bb e [] w hp hne h (by simp)
    rw [if_neg h0] at this
    exact this
end Go.Proofs.YtdcinifcpaldiaaDoor

namespace Go.Proofs.YtdcinifcpaldiaaDoor
open Go.RowKit

def finD (d : List Cell × Nat × List Nat) : List Cell × Nat := if doneE d.2.1 d.2.2 ≠ 0 then ([], doneE d.2.1 d.2.2) else (d.1, 0)
/-- The cells that bytes are, or why they are none. -/
def decKn (n : Nat) (r : List Nat) : List Cell × Nat := finD (cellsD n r)
def kept (cs : List Cell) (m e : Nat) (r : List Nat) : List Cell × Nat × List Nat := if e ≠ 0 then (cs, e, r) else (cs ++ (cellsD m r).1, (cellsD m r).2.1, (cellsD m r).2.2)
theorem kept_step (cs : List Cell) (m : Nat) (r : List Nat) : kept cs (m + 1) 0 r = kept (cs ++ [(cell1 r).1]) m (cell1 r).2.1 (cell1 r).2.2 := by
  unfold kept
  rw [if_neg (by simp)]
  by_cases h : (cell1 r).2.1 ≠ 0
  · rw [if_pos h]
    have e : cellsD (m + 1) r = ([(cell1 r).1], (cell1 r).2.1, (cell1 r).2.2) := by
      conv => lhs; unfold cellsD
      rw [if_pos h]
    rw [e]
  · rw [if_neg h]
    have e : cellsD (m + 1) r = ((cell1 r).1 :: (cellsD m (cell1 r).2.2).1, (cellsD m (cell1 r).2.2).2.1, (cellsD m (cell1 r).2.2).2.2) := by
      conv => lhs; unfold cellsD
      rw [if_neg h]
    rw [e]
    simp
theorem kept_end (cs : List Cell) (e : Nat) (r : List Nat) : kept cs 0 e r = (cs, e, r) := by
  unfold kept
  by_cases h : e ≠ 0
  · rw [if_pos h]
  · rw [if_neg h]
    have : e = 0 := by omega
    subst this
    simp [cellsD]
theorem kept_off (cs : List Cell) {m e : Nat} {r : List Nat} (h : e ≠ 0) : kept cs m e r = (cs, e, r) := by unfold kept; rw [if_pos h]
theorem numC_rest {most : Nat} {b : List Nat} (hb : ∀ c ∈ b, c < 256) : ((numC most b).2.1 ≠ 0 → (numC most b).2.2 = []) ∧ (∀ c ∈ (numC most b).2.2, c < 256) ∧ (numC most b).2.2.length ≤ b.length := by
  unfold numC
  by_cases h1 : (unvar b).2.2 = 0
  · by_cases h2 : most < (unvar b).1
    · simp [h1, h2]
    · simp only [h1, h2]
      refine ⟨by simp, ?_, ?_⟩
      · intro c hc
        simp at hc
        exact hb c (List.mem_of_mem_drop hc)
      · simp
  · simp [h1]
theorem word8_rest {e : Nat} {b : List Nat} (he : e ≠ 0 → b = []) (hb : ∀ c ∈ b, c < 256) : ((word8 e b).2.1 ≠ 0 → (word8 e b).2.2 = []) ∧ (∀ c ∈ (word8 e b).2.2, c < 256) ∧ (word8 e b).2.2.length ≤ b.length ∧ W64 (word8 e b).1 := by
  unfold word8
  by_cases h1 : e = 0
  · by_cases h2 : b.length < 8
    · simp [h1, h2, W64]
    · simp only [h1, h2]
      refine ⟨by simp, ?_, ?_, ?_⟩
      · intro c hc
        simp at hc
        exact hb c (List.mem_of_mem_drop hc)
      · simp
      · simp only [ne_eq, not_true_eq_false, if_false]
        exact (put_get8 (b := b.take 8) (by simp; omega) (fun c hc => hb c (List.mem_of_mem_take hc))).2
  · have := he h1
    subst this
    simp [h1, W64]
theorem Cur.only' {S : Nat → Prop} {w w' : World} {cb bb e : Nat} {l : List Nat} (h : Cur w cb bb e l) (ho : Only S w w') (h1 : ¬ S cb) (h2 : 0 < l.length → ¬ S bb) : Cur w' cb bb e l := by
  obtain ⟨hne, a, cap, hb, hc, hf⟩ := h
  refine ⟨hne, a, cap, ho.blk hb h1, hc, fun hp => ?_⟩
  obtain ⟨o, ha, hl, hcell⟩ := hf hp
  exact ⟨o, ha, Nat.lt_of_lt_of_le hl ho.size, fun j u hu => (ho.cell (p := ⟨bb, o + j, none⟩) hl (h2 hp)).trans (hcell j u hu)⟩
set_option maxRecDepth 100000 in
set_option maxHeartbeats 8000000 in
theorem DecK_on (v : Value) (l r : List Nat) (n : Nat) (w : World) (hR : Rd w v (u8s l)) (hb : ∀ c ∈ l, c < 256) (hl : l.length ≤ 1000000) (hN : numC 4095 l = (n, 0, r)) (hm : May (n : Int)) :
    Calls Tryd.prog 63 #[v] w fun q w' => ∃ u, q = .returned (.tuple #[u, .int .i64 ((decKn n r).2 : Nat)]) ∧ w'.ownsRow w.heap.size 81 3 u (decKn n r).1.length (fl encC (decKn n r).1) ∧ Only No w w' := by
  have hnn : n ≤ 4095 := by have := hm.2.1; omega
  obtain ⟨i1, hinf1, hy0, hy1, hy2⟩ := info_parts info_cell
  have hlr : l = varL n ++ r := (numC_ok hb hN).2
  have hbr : ∀ c ∈ r, c < 256 := fun c hc => hb c (by rw [hlr]; exact List.mem_append_right _ hc)
  have hrl : r.length ≤ 1000000 := by have := congrArg List.length hlr; rw [List.length_append] at this; omega
  obtain ⟨D, hD⟩ : ∃ D, D = cellsD n r := ⟨_, rfl⟩
  obtain ⟨R, hRe⟩ : ∃ R, R = decKn n r := ⟨_, rfl⟩
  have HD := Lib.hid (And.intro hD (show R = finD D by rw [hRe, hD]; rfl))
  rw [← hRe]
  clear hRe hlr hD
  obtain ⟨a, cap, rfl, hcap⟩ := hR.cases
  simp only [u8s_len] at hR hcap ⊢
  have HFr := Lib.hid (From_c _ l w hR hl)
  have HMay := Lib.hid (fun w => may_yes (n : Int) w hm)
  go_enter Tryd.func63, Tryd.ntmps63
  go_wp2_with (go_at_call 60; refine HFr.out.mono ?_; rintro q w1 ⟨cb, rfl, hcw, ⟨bb, hbw, hC1⟩, hO1⟩)
  generalize hW2 : w1.alloc (.cells #[.pointer (some ⟨cb, 0, none⟩)] 83) = w2
  have hp2 : Blk w2 w1.heap.size #[.pointer (some ⟨cb, 0, none⟩)] 83 := by rw [← hW2]; exact Blk.new w1 _ _
  have hO2 : Only No w1 w2 := by rw [← hW2]; exact (Only.refl _ _).alloc _
  have hC2 := hC1.no hO2
  have hpc : w1.heap.size ≠ cb := by have := hC1.lt; omega
  have hOw2 := hO1.trans hO2
  have HNum := Lib.hid (Num_c cb bb 0 4095 l w2 hC2 hb hl)
  have c2 := hp2.cell 0 _ rfl
  generalize w1.heap.size = pb at *
  clear hW2 hC1 hR HFr hm
  have eN : numE 0 4095 l = (n, 0, r) := hN
  rw [eN] at HNum
  have HErr0 := Lib.hid (fun W (h : Cur W cb bb 0 r) => Err_c cb bb 0 r W h)
  clear eN hN hb
  go_wp2_with (first
    | (go_at_call 97; refine HNum.out.mono ?_; rintro q w4 ⟨rfl, hC4, hO4⟩; have hp4 := hO4.blk hp2 hpc; have c4 := hp4.cell 0 _ rfl)
    | (go_at_call 62; refine (HErr0.out _ hC4).mono ?_; rintro q w' ⟨rfl, rfl⟩)
    | (go_at_call 72; refine (HMay.out _).mono ?_; rintro q w' ⟨rfl, rfl⟩))
  have hOw4 : Only No w w4 := hOw2.then hO4 (fun i hi e => by exfalso; omega)
  have hz4 := hOw4.size
  have hcl := hC4.lt
  have hpl := hp4.lt
  have ent := enters_of Tryd.func101 (by kernel_rfl) rfl
  have HB0 := Lib.hid (And.intro hbr hrl)
  clear HErr0 HNum c2 hbr hrl
  go_loopw [7, 8] (fun v7 v8 wr => ∃ (i : Nat) (cs : List Cell) (e' : Nat) (r' : List Nat), i ≤ n ∧ v8 = .int .i64 i ∧ cs.length = i ∧ Bun wr w4.heap.size [(81, 3, v7, cs.length, fl encC cs)] ∧ Only (OutOf cb w4.heap.size) w4 wr ∧
      (Cur wr cb bb e' r' ∧ (e' ≠ 0 → r' = []) ∧ (∀ c ∈ r', c < 256) ∧ r'.length ≤ 1000000 ∧ (0 < r'.length → bb < w4.heap.size)) ∧ D = kept cs (n - i) e' r') (fun _ v8 _ => n - (intOf v8).toNat)
  case atStart => exact ⟨0, [], 0, r, by omega, rfl, rfl, (Bun.nil _ _).cons_nil _ _, Only.refl _ _, ⟨hC4, by simp, HB0.out.1, HB0.out.2, fun h => hC4.bb_lt h⟩, by rw [HD.out.1]; simp [kept]⟩
  case round =>
    obtain ⟨i, cs, e', r', hi, rfl, hcl', hBn, hO, ⟨hC, her, hbr, hrl, hbb⟩, hK⟩ := hrel
    have hp := hO.blk hp4 (fun e => by rcases e with e | e <;> omega)
    have c5 := hp.cell 0 _ rfl
    have hOe : Only No w wr := ((hOw4.of_no (S := OutOf cb w4.heap.size)).trans hO).mono (fun k hk e => by rcases e with e | e <;> (exfalso; omega))
    obtain ⟨ya, yc, rfl⟩ := bun_is hBn 0 rfl
    have HCL := Lib.hid hcl'
    have hy8 : cs.length ≤ 4095 := by omega
    have HK := Lib.hid hK
    clear c4 hC4 hO4 hp4 hOw4 hcl' hK
    generalize wr = wk at *
    by_cases hgo : i < n ∧ e' = 0
    · obtain ⟨hlt, he0⟩ := hgo
      subst he0
      have HErr := Lib.hid (Err_c cb bb 0 r' wk hC)
      obtain ⟨N, e1, r1, hA⟩ : ∃ N e1 r1, numC 4294967295 r' = (N, e1, r1) := ⟨_, _, _, rfl⟩
      obtain ⟨x, e2, r2, hX⟩ : ∃ x e2 r2, word8 e1 r1 = (x, e2, r2) := ⟨_, _, _, rfl⟩
      obtain ⟨y, e3, r3, hY⟩ : ∃ y e3 r3, word8 e2 r2 = (y, e3, r3) := ⟨_, _, _, rfl⟩
      have hc1 : cell1 r' = ((zag N, x, y), e3, r3) := by unfold cell1; simp only [hA, hX, hY]
      have hNl : N ≤ 4294967295 := by have := numC_le 4294967295 r'; rw [hA] at this; exact this
      have hq1 := numC_rest (most := 4294967295) hbr
      rw [hA] at hq1
      obtain ⟨qa, qb, qc⟩ := hq1
      have hq2 := word8_rest qa qb
      rw [hX] at hq2
      obtain ⟨qd, qe, qf, qx⟩ := hq2
      have hq3 := word8_rest qd qe
      rw [hY] at hq3
      obtain ⟨qg, qh, qi, qy⟩ := hq3
      simp only at qa qb qc qd qe qf qx qg qh qi qy
      have HNm := Num_c cb bb 0 4294967295 r' wk hC hbr hrl
      have eA : numE 0 4294967295 r' = (N, e1, r1) := hA
      rw [eA] at HNm
      have HNm' := Lib.hid HNm
      have HZg := Lib.hid (fun W => Zag_c N W hNl)
      obtain ⟨hz1, hz2⟩ := zag_r hNl
      have HK2 := Lib.hid (show D = kept (cs ++ [(zag N, x, y)]) (n - (i + 1)) e3 r3 by
        rw [HK.out, show n - i = (n - (i + 1)) + 1 by omega, kept_step, hc1])
      have HW1 := Lib.hid (fun (W : World) hp hC => word_c pb cb bb e1 r1 W hp hpc hC qa qb (by omega))
      rw [hX] at HW1
      have HW2 := Lib.hid (fun (W : World) hp hC => word_c pb cb bb e2 r2 W hp hpc hC qd qe (by omega))
      rw [hY] at HW2
      have HQ := Lib.hid (And.intro qg (And.intro qh (show r3.length ≤ 1000000 by omega)))
      have hq31 : 0 < r3.length → bb < w4.heap.size := fun h => hbb (by omega)
      have hq21 : 0 < r2.length → bb < w4.heap.size := fun h => hbb (by omega)
      have hq11 : 0 < r1.length → bb < w4.heap.size := fun h => hbb (by omega)
      have HBB := Lib.hid (And.intro hq11 (And.intro hq21 hq31))
      have hi0 : (0 : Int) ≤ (i : Int) := by omega
      have hin : (i : Int) < (n : Int) := by omega
      generalize zag N = z at *
      have hzk := hO.size
      have HC := Lib.hid hC
      clear hA hX hY hc1 HNm eA qa qb qc qd qe qf qg qh qi hq31 hq21 hq11 hbr her hrl hbb hC
      go_wp2_with (first
        | (go_at_call 62; refine HErr.out.mono ?_; rintro q w' ⟨rfl, rfl⟩)
        | (go_at_call 97; refine HNm'.out.mono ?_; rintro q w5 ⟨rfl, hC5, hO5⟩; have hp5 := hO5.blk hp hpc; have c55 := hp5.cell 0 _ rfl)
        | (go_at_call 104; refine (HZg.out _).mono ?_; rintro q w' ⟨rfl, rfl⟩))
      generalize hW6 : w5.alloc _ = w6
      have hbc6 : Blk w6 w5.heap.size #[.int .i32 z, .int .u64 0, .int .u64 0] 81 := by rw [← hW6]; exact Blk.new w5 _ _
      have hO6 : Only No w5 w6 := by rw [← hW6]; exact (Only.refl _ _).alloc _
      have hz5 := hO5.size
      have hz6 := hO6.size
      have hbne : w5.heap.size ≠ cb := by omega
      have hpne : w5.heap.size ≠ pb := by have := hp.lt; omega
      generalize hBC : w5.heap.size = bc at *
      have hC6 := hC5.no hO6
      have hp6 := hO6.blk hp5 id
      have HB6 := Lib.hid (And.intro hbc6 (And.intro hC6 hp6))
      clear hW6 c55 c5
      go_wp2_with (refine (HW1.out w6 hp6 hC6).mono ?_; rintro q w7 ⟨rfl, hC7, hO7⟩; have hbc7 := hO7.blk hbc6 hbne; have b1 : w7.cell? ⟨bc, 1, none⟩ = some (.int .u64 0) := hbc7.cell 1 _ rfl; have f1 := hbc7.free 1; have hp7 := hO7.blk hp6 hpc)
      generalize hW8 : w7.setCell _ _ = w8
      have hbc8 : Blk w8 bc #[.int .i32 z, .int .u64 (x : Int), .int .u64 0] 81 := by rw [← hW8]; exact hbc7.set 1 _
      have hO8 : Only (· = bc) w7 w8 := by rw [← hW8]; exact Only.set1 (Only.refl _ _) _ _
      have hC8 := hC7.only' hO8 (fun e => hbne e.symm) (fun h e => by have := HBB.out.2.1 h; have e' : bb = bc := e; omega)
      have hp8 := hO8.blk hp7 (fun e => hpne e.symm)
      clear hW8 b1 f1
      go_wp2_with (first
        | (refine (HW2.out w8 hp8 hC8).mono ?_; rintro q w9 ⟨rfl, hC9, hO9⟩; have hbc9 := hO9.blk hbc8 hbne; have b0 : w9.cell? ⟨bc, 0, none⟩ = some (.int .i32 z) := hbc9.cell 0 _ rfl; have b1 : w9.cell? ⟨bc, 1, none⟩ = some (.int .u64 (x : Int)) := hbc9.cell 1 _ rfl; have b2 : w9.cell? ⟨bc, 2, none⟩ = some (.int .u64 0) := hbc9.cell 2 _ rfl; have f2 := hbc9.free 2; have hT : Only (· = cb) wk w9 := ((((hO5.then hO6 (fun _ _ e => e.elim)).then hO7 (fun _ _ e => e)).then hO8 (fun i hi e => by exfalso; have e' : i = bc := e; omega)).then hO9 (fun _ _ e => e)); have hTS := hT.then ((Only.refl (· = bc) w9).set1 2 (.int .u64 (y : Int))) (fun i hi e => by exfalso; have e' : i = bc := e; omega); have hBS := hBn.only hTS (fun k hk e => by have e' : k = cb := e; omega); have hCS := hC9.only' ((Only.refl (· = bc) w9).set1 2 (.int .u64 (y : Int))) (fun e => hbne e.symm) (fun h e => by have := HBB.out.2.2 h; have e' : bb = bc := e; omega); have hzS : w4.heap.size ≤ (w9.setCell ⟨bc, 2, none⟩ (.int .u64 (y : Int))).heap.size := Nat.le_trans hzk hTS.size; have HS := Lib.hid (And.intro hTS (And.intro hBS hCS)))
        | (at_builtin; refine wpList_append1o rfl (.tmp 48) (.tmp 50) 42 rfl w4.heap.size 81 i1 _ 3 24 Tryd.underlying42 hinf1 hy0 hy1 hy2 rfl (by decide) _ HS.out.2.1 0 _ _ _ rfl rfl [.int .i32 z, .int .u64 (x : Int), .int .u64 (y : Int)] _ w9.heap.size (by simp) rfl rfl (by simp [Value.oneCell']) (by unfold maxLen; omega) (by omega) hzS ?_; intro g6 d6 w10 hB10 hO10))
      go_roundw
      case rel =>
        have hlt10 := fun b e => ((HS.out.2.1.owns 0 _ rfl).lt (b := b) e).1
        have hC10 := HS.out.2.2.only' hO10 (fun e => by have := hlt10 _ e; omega) (fun h e => by have := hlt10 _ e; have := HBB.out.2.2 h; omega)
        refine ⟨i + 1, cs ++ [(z, x, y)], e3, r3, by omega, by go_num, by have := HCL.out; simp; omega, by simpa [List.set, fl_snoc, encC] using hB10, (hO.trans (HS.out.1.mono (fun k _ e => .inl e))).trans (hO10.mono (fun k _ e => .inr (hlt10 _ e))), ⟨hC10, HQ.out.1, HQ.out.2.1, HQ.out.2.2, HBB.out.2.2⟩, HK2.out⟩
      case measure => simp [intOf]; omega
    · have hDe : D = (cs, e', r') := by
        rw [HK.out]
        by_cases he : e' ≠ 0
        · exact kept_off cs he
        · have hin : n - i = 0 := by omega
          rw [hin]
          exact kept_end cs e' r'
      have HDn := Lib.hid (Done_c cb bb e' r' wk hC)
      have HErr := Lib.hid (Err_c cb bb e' r' wk hC)
      have hRR : R = finD (cs, e', r') := by rw [HD.out.2, hDe]
      have hRy : wk.ownsRow w.heap.size 81 3 _ _ _ := row_lower (show wk.ownsRow w4.heap.size 81 3 _ _ _ from hBn.owns 0 _ rfl) (by first | omega | exact Only.size (by assumption))
      obtain ⟨dn, hdn⟩ : ∃ dn, dn = doneE e' r' := ⟨_, rfl⟩
      rw [← hdn] at HDn
      by_cases hd0 : dn = 0
      · have hR0 : R = (cs, 0) := by rw [hRR]; unfold finD; simp only; rw [← hdn, if_neg (by omega)]
        subst hR0
        have hz : ((dn : Int) != 0) = false := by simp; omega
        have HH := Lib.hid (And.intro hdn hgo)
        clear hDe hRR hdn hd0
        by_cases hin : i < n
        · have hinz : (i : Int) < (n : Int) := by omega
          have hez : ((e' : Int) == 0) = false := by simp; omega
          clear hgo
          go_wp2_with (first
            | (go_at_call 62; refine HErr.out.mono ?_; rintro q w' ⟨rfl, rfl⟩)
            | (go_at_call 64; refine HDn.out.mono ?_; rintro q w' ⟨rfl, rfl⟩))
          go_ret2
          exact ⟨_, rfl, hRy, hOe⟩
        · have hinz : ¬ (i : Int) < (n : Int) := by omega
          clear hgo
          go_wp2_with (first
            | (go_at_call 64; refine HDn.out.mono ?_; rintro q w' ⟨rfl, rfl⟩))
          go_ret2
          exact ⟨_, rfl, hRy, hOe⟩
      · have hR0 : R = ([], dn) := by rw [hRR]; unfold finD; simp only; rw [← hdn, if_pos hd0]
        subst hR0
        have hz : ((dn : Int) != 0) = true := by simp; omega
        have HH := Lib.hid (And.intro hdn hgo)
        clear hDe hRR hdn hd0
        by_cases hin : i < n
        · have hinz : (i : Int) < (n : Int) := by omega
          have hez : ((e' : Int) == 0) = false := by simp; omega
          clear hgo
          go_wp2_with (first
            | (go_at_call 62; refine HErr.out.mono ?_; rintro q w' ⟨rfl, rfl⟩)
            | (go_at_call 64; refine HDn.out.mono ?_; rintro q w' ⟨rfl, rfl⟩))
          go_ret2
          exact ⟨_, rfl, World.ownsRow_nil _ _ _ _, hOe⟩
        · have hinz : ¬ (i : Int) < (n : Int) := by omega
          clear hgo
          go_wp2_with (first
            | (go_at_call 64; refine HDn.out.mono ?_; rintro q w' ⟨rfl, rfl⟩))
          go_ret2
          exact ⟨_, rfl, World.ownsRow_nil _ _ _ _, hOe⟩
end Go.Proofs.YtdcinifcpaldiaaDoor

namespace Go.Proofs.YtdcinifcpaldiaaDoor
open Go.RowKit

set_option maxRecDepth 100000 in
set_option maxHeartbeats 2000000 in
/-- No number comes, or one that no table has. -/
theorem DecK_off (v : Value) (l : List Nat) (n e2 : Nat) (w : World) (hR : Rd w v (u8s l)) (hb : ∀ c ∈ l, c < 256) (hl : l.length ≤ 1000000) (he2 : 1 ≤ e2) (h : (∃ r, numC 4095 l = (n, e2, r) ∧ r = []) ∨ (∃ r, numC 4095 l = (n, 0, r) ∧ ¬ May (n : Int) ∧ e2 = 1)) :
    Calls Tryd.prog 63 #[v] w fun q w' => ∃ u, q = .returned (.tuple #[u, .int .i64 (e2 : Int)]) ∧ w'.ownsRow w.heap.size 81 3 u 0 (fl encC []) ∧ Only No w w' := by
  have hn := numC_le 4095 l
  rcases h with ⟨r, hN, hr⟩ | ⟨r, hN, hm, he⟩
  · have hnn : n ≤ 4095 := by rw [hN] at hn; exact hn
    subst hr
    obtain ⟨a, cap, rfl, hcap⟩ := hR.cases
    simp only [u8s_len] at hR hcap ⊢
    have HFr := Lib.hid (From_c _ l w hR hl)
    go_enter Tryd.func63, Tryd.ntmps63
    go_wp2_with (go_at_call 60; refine HFr.out.mono ?_; rintro q w1 ⟨cb, rfl, hcw, ⟨bb, hbw, hC1⟩, hO1⟩)
    generalize hW2 : w1.alloc (.cells #[.pointer (some ⟨cb, 0, none⟩)] 83) = w2
    have hp2 : Blk w2 w1.heap.size #[.pointer (some ⟨cb, 0, none⟩)] 83 := by rw [← hW2]; exact Blk.new w1 _ _
    have hO2 : Only No w1 w2 := by rw [← hW2]; exact (Only.refl _ _).alloc _
    have hC2 := hC1.no hO2
    have hpc : w1.heap.size ≠ cb := by have := hC1.lt; omega
    have hOw2 := hO1.trans hO2
    have HNum := Lib.hid (Num_c cb bb 0 4095 l w2 hC2 hb hl)
    have c2 := hp2.cell 0 _ rfl
    generalize w1.heap.size = pb at *
    clear hW2 hC1 hR HFr
    have eN : numE 0 4095 l = (n, e2, []) := hN
    rw [eN] at HNum
    have hz0 : ((e2 : Int) == 0) = false := by simp; omega
    have hz3 : ((e2 : Int) != 0) = true := by simp; omega
    have HErr0 := Lib.hid (fun W (h : Cur W cb bb e2 []) => Err_c cb bb e2 [] W h)
    clear eN hN hn hb
    go_wp2_with (first
      | (go_at_call 97; refine HNum.out.mono ?_; rintro q w4 ⟨rfl, hC4, hO4⟩; have hp4 := hO4.blk hp2 hpc; have c3 := hp4.cell 0 _ rfl)
      | (go_at_call 62; refine (HErr0.out _ hC4).mono ?_; rintro q w' ⟨rfl, rfl⟩))
    have hOw4 : Only No w w4 := hOw2.then hO4 (fun i hi e => by exfalso; omega)
    clear c3 HErr0 HNum hz0 hz3 c2
    have HErr := Lib.hid (fun W (h : Cur W cb bb e2 []) => Err_c cb bb e2 [] W h)
    have HDone := Lib.hid (Done_c cb bb e2 [] w4 hC4)
    have hde : doneE e2 [] = e2 := if_pos rfl
    rw [hde] at HDone
    have hz1 : ((e2 : Int) == 0) = false := by simp; omega
    have hz2 : ((e2 : Int) != 0) = true := by simp; omega
    have c4 := hp4.cell 0 _ rfl
    have ent := enters_of Tryd.func101 (by kernel_rfl) rfl
    clear hde
    go_loopw [7, 8] (fun v7 v8 wr => v7 = .slice none 0 0 ∧ v8 = .int .i64 0 ∧ wr = w4) (fun _ _ _ => 0)
    case atStart => exact ⟨rfl, rfl, rfl⟩
    case round =>
      obtain ⟨rfl, rfl, rfl⟩ := hrel
      by_cases hn0 : n = 0
      · have hn1 : ¬ (0 : Int) < (n : Int) := by omega
        clear hn0
        go_wp2_with (first
          | (go_at_call 64; refine HDone.out.mono ?_; rintro q w' ⟨rfl, rfl⟩))
        go_ret2
        exact ⟨_, rfl, World.ownsRow_nil _ _ _ _, hOw4⟩
      · have hn1 : (0 : Int) < (n : Int) := by omega
        clear hn0
        go_wp2_with (first
          | (go_at_call 62; refine (HErr.out _ hC4).mono ?_; rintro q w' ⟨rfl, rfl⟩)
          | (go_at_call 64; refine HDone.out.mono ?_; rintro q w' ⟨rfl, rfl⟩))
        go_ret2
        exact ⟨_, rfl, World.ownsRow_nil _ _ _ _, hOw4⟩
  · have hnn : n ≤ 4095 := by rw [hN] at hn; exact hn
    have HE1 := Lib.hid he
    have HMay := Lib.hid (fun w => may_no (n : Int) w hm)
    clear he hm
    obtain ⟨a, cap, rfl, hcap⟩ := hR.cases
    simp only [u8s_len] at hR hcap ⊢
    have HFr := Lib.hid (From_c _ l w hR hl)
    go_enter Tryd.func63, Tryd.ntmps63
    go_wp2_with (go_at_call 60; refine HFr.out.mono ?_; rintro q w1 ⟨cb, rfl, hcw, ⟨bb, hbw, hC1⟩, hO1⟩)
    generalize hW2 : w1.alloc (.cells #[.pointer (some ⟨cb, 0, none⟩)] 83) = w2
    have hp2 : Blk w2 w1.heap.size #[.pointer (some ⟨cb, 0, none⟩)] 83 := by rw [← hW2]; exact Blk.new w1 _ _
    have hO2 : Only No w1 w2 := by rw [← hW2]; exact (Only.refl _ _).alloc _
    have hC2 := hC1.no hO2
    have hpc : w1.heap.size ≠ cb := by have := hC1.lt; omega
    have hOw2 := hO1.trans hO2
    have HNum := Lib.hid (Num_c cb bb 0 4095 l w2 hC2 hb hl)
    have c2 := hp2.cell 0 _ rfl
    generalize w1.heap.size = pb at *
    clear hW2 hC1 hR HFr
    have eN : numE 0 4095 l = (n, 0, r) := hN
    rw [eN] at HNum
    have HErr0 := Lib.hid (fun W (h : Cur W cb bb 0 r) => Err_c cb bb 0 r W h)
    have HFail := Lib.hid (fun W (h : Cur W cb bb 0 r) => Fail_c cb bb 0 1 r W h (by omega))
    rw [if_pos rfl] at HFail
    clear eN hN hn hb
    go_wp2_with (first
      | (go_at_call 97; refine HNum.out.mono ?_; rintro q w3 ⟨rfl, hC3, hO3⟩; have hp3 := hO3.blk hp2 hpc; have c3 := hp3.cell 0 _ rfl)
      | (go_at_call 62; refine (HErr0.out _ hC3).mono ?_; rintro q w' ⟨rfl, rfl⟩)
      | (go_at_call 72; refine (HMay.out _).mono ?_; rintro q w' ⟨rfl, rfl⟩)
      | (go_at_call 100; refine (HFail.out _ hC3).mono ?_; rintro q w4 ⟨rfl, hC4, hO4⟩; have hp4 := hO4.blk hp3 hpc))
    have hOw4 : Only No w w4 := (hOw2.then hO3 (fun i hi e => by exfalso; omega)).then hO4 (fun i hi e => by exfalso; omega)
    have hC4 : Cur w4 cb bb e2 [] := by rw [HE1.out]; exact hC4
    clear c3 HErr0 HNum c2 HFail HMay
    have HErr := Lib.hid (fun W (h : Cur W cb bb e2 []) => Err_c cb bb e2 [] W h)
    have HDone := Lib.hid (Done_c cb bb e2 [] w4 hC4)
    have hde : doneE e2 [] = e2 := if_pos rfl
    rw [hde] at HDone
    have hz1 : ((e2 : Int) == 0) = false := by simp; omega
    have hz2 : ((e2 : Int) != 0) = true := by simp; omega
    have c4 := hp4.cell 0 _ rfl
    have ent := enters_of Tryd.func101 (by kernel_rfl) rfl
    clear hde
    go_loopw [7, 8] (fun v7 v8 wr => v7 = .slice none 0 0 ∧ v8 = .int .i64 0 ∧ wr = w4) (fun _ _ _ => 0)
    case atStart => exact ⟨rfl, rfl, rfl⟩
    case round =>
      obtain ⟨rfl, rfl, rfl⟩ := hrel
      by_cases hn0 : n = 0
      · have hn1 : ¬ (0 : Int) < (n : Int) := by omega
        clear hn0
        go_wp2_with (first
          | (go_at_call 64; refine HDone.out.mono ?_; rintro q w' ⟨rfl, rfl⟩))
        go_ret2
        exact ⟨_, rfl, World.ownsRow_nil _ _ _ _, hOw4⟩
      · have hn1 : (0 : Int) < (n : Int) := by omega
        clear hn0
        go_wp2_with (first
          | (go_at_call 62; refine (HErr.out _ hC4).mono ?_; rintro q w' ⟨rfl, rfl⟩)
          | (go_at_call 64; refine HDone.out.mono ?_; rintro q w' ⟨rfl, rfl⟩))
        go_ret2
        exact ⟨_, rfl, World.ownsRow_nil _ _ _ _, hOw4⟩
open Classical in
/-- The cells that bytes are, or why they are none. -/
noncomputable def decK (l : List Nat) : List Cell × Nat := if (numC 4095 l).2.1 ≠ 0 then ([], (numC 4095 l).2.1) else if ¬ May ((numC 4095 l).1 : Int) then ([], 1) else decKn (numC 4095 l).1 (numC 4095 l).2.2
theorem decK_err {l : List Nat} {n e : Nat} {r : List Nat} (hN : numC 4095 l = (n, e, r)) (he : e ≠ 0) : decK l = ([], e) := by unfold decK; rw [hN]; simp [he]
theorem decK_not {l : List Nat} {n : Nat} {r : List Nat} (hN : numC 4095 l = (n, 0, r)) (hm : ¬ May (n : Int)) : decK l = ([], 1) := by unfold decK; rw [hN]; simp [hm]
theorem decK_may {l : List Nat} {n : Nat} {r : List Nat} (hN : numC 4095 l = (n, 0, r)) (hm : May (n : Int)) : decK l = decKn n r := by unfold decK; rw [hN]; simp [hm]
theorem DecK_o (v : Value) (l : List Nat) (w : World) (hR : Rd w v (u8s l)) (hb : ∀ c ∈ l, c < 256) (hl : l.length ≤ 1000000) :
    Calls Tryd.prog 63 #[v] w fun q w' => ∃ u, q = .returned (.tuple #[u, .int .i64 ((decK l).2 : Nat)]) ∧ w'.ownsRow w.heap.size 81 3 u (decK l).1.length (fl encC (decK l).1) ∧ Only No w w' := by
  obtain ⟨n, e, r, hN⟩ : ∃ n e r, numC 4095 l = (n, e, r) := ⟨_, _, _, rfl⟩
  by_cases he : e = 0
  · subst he
    by_cases hm : May (n : Int)
    · rw [decK_may hN hm]
      exact DecK_on v l r n w hR hb hl hN hm
    · rw [decK_not hN hm]
      exact DecK_off v l n 1 w hR hb hl (by omega) (.inr ⟨r, hN, hm, rfl⟩)
  · rw [decK_err hN he]
    refine DecK_off v l n e w hR hb hl (by omega) (.inl ⟨r, hN, ?_⟩)
    have := numC_err (most := 4095) (b := l) (by rw [hN]; exact he)
    rw [hN] at this
    simp at this
    exact this.2
theorem DecK_c (v : Value) (l : List Nat) (w : World) (hR : Rd w v (u8s l)) (hb : ∀ c ∈ l, c < 256) (hl : l.length ≤ 1000000) :
    Calls Tryd.prog 63 #[v] w fun q w' => ∃ u, q = .returned (.tuple #[u, .int .i64 ((decK l).2 : Nat)]) ∧ RdN 3 w' u (decK l).1.length (fl encC (decK l).1) ∧ Only No w w' := by
  refine (DecK_o v l w hR hb hl).mono ?_
  rintro q w' ⟨u, h1, h2, h3⟩
  exact ⟨u, h1, RdN.of_row h2, h3⟩
end Go.Proofs.YtdcinifcpaldiaaDoor

namespace Go.Proofs.YtdcinifcpaldiaaDoor
open Go.RowKit

theorem Lies.take8 {w : World} {bb cap o : Nat} {l : List Nat} (h : Lies w bb (some ⟨bb, o, none⟩) cap l) (h8 : 8 ≤ l.length) (c' : Nat) (hc' : 8 ≤ c') : Rd w (.slice (some ⟨bb, o, none⟩) 8 c') (u8s (l.take 8)) := by
  have := h.part (i := 0) (by omega) c' hc'
  simpa using this
theorem RCur.only' {S : Nat → Prop} {w w' : World} {cb bb e : Nat} {l : List Nat} (h : RCur w cb bb e l) (ho : Only S w w') (h1 : ¬ S cb) (h2 : 0 < l.length → ¬ S bb) : RCur w' cb bb e l := by
  obtain ⟨hne, a, cap, hb, hc, hf⟩ := h
  refine ⟨hne, a, cap, ho.blk hb h1, hc, fun hp => ?_⟩
  obtain ⟨o, ha, hl, hcell⟩ := hf hp
  exact ⟨o, ha, Nat.lt_of_lt_of_le hl ho.size, fun j u hu => (ho.cell (p := ⟨bb, o + j, none⟩) hl (h2 hp)).trans (hcell j u hu)⟩
theorem RCur.bb_lt {w : World} {cb bb e : Nat} {l : List Nat} (h : RCur w cb bb e l) (hp : 0 < l.length) : bb < w.heap.size := by
  obtain ⟨-, a, cap, -, -, hf⟩ := h
  obtain ⟨o, -, hl, -⟩ := hf hp
  exact hl
set_option maxRecDepth 100000 in
theorem rDone_c (cb bb e : Nat) (l : List Nat) (w : World) (h : RCur w cb bb e l) (he : e ≠ 0 → l = []) :
    Calls Tryd.prog 67 #[.pointer (some ⟨cb, 0, none⟩)] w fun r w' => r = .returned (.int .i64 (doneE e l : Nat)) ∧ w = w' := by
  obtain ⟨hne, a, cap, hb, hl⟩ := h
  have c0 : w.cell? ⟨cb, 0, none⟩ = some (.slice a l.length cap) := hb.cell 0 _ rfl
  have c1 : w.cell? ⟨cb, 1, none⟩ = some (.int .i64 (e : Int)) := hb.cell 1 _ rfl
  clear hl hb
  by_cases h0 : e = 0
  · have hz : ((e : Int) == 0) = true := by simp; omega
    by_cases hl : l = []
    · subst hl
      have hd : doneE e [] = e := if_pos rfl
      rw [hd]
      have H0 := Lib.hid h0
      clear he hd h0
      go_enter Tryd.func67, Tryd.ntmps67
      go_wp2
      go_ret
      exact ⟨rfl, rfl⟩
    · have hd : doneE e l = 3 := if_neg hl
      rw [hd]
      have hp : (0 : Int) < (l.length : Int) := by have := List.length_pos_iff.2 hl; omega
      have H0 := Lib.hid h0
      clear he hd hl h0
      go_enter Tryd.func67, Tryd.ntmps67
      go_wp2
      go_ret
      exact ⟨rfl, rfl⟩
  · have hl := he h0
    subst hl
    have hd : doneE e [] = e := if_pos rfl
    rw [hd]
    have hz : ((e : Int) == 0) = false := by simp; omega
    clear he hd h0
    go_enter Tryd.func67, Tryd.ntmps67
    go_wp2
    go_ret
    exact ⟨rfl, rfl⟩
set_option maxRecDepth 100000 in
set_option maxHeartbeats 1000000 in
theorem Eight_c (cb bb e : Nat) (l : List Nat) (w : World) (h : RCur w cb bb e l) (he : e ≠ 0 → l = []) (hby : ∀ c ∈ l, c < 256) (hlen : l.length ≤ 1000000) :
    Calls Tryd.prog 109 #[.pointer (some ⟨cb, 0, none⟩)] w fun r w' => r = .returned (.int .u64 ((word8 e l).1 : Nat)) ∧ RCur w' cb bb (word8 e l).2.1 (word8 e l).2.2 ∧ Only (· = cb) w w' := by
  obtain ⟨hne, a, cap, hb, hl⟩ := h
  have c0 : w.cell? ⟨cb, 0, none⟩ = some (.slice a l.length cap) := hb.cell 0 _ rfl
  have c1 : w.cell? ⟨cb, 1, none⟩ = some (.int .i64 (e : Int)) := hb.cell 1 _ rfl
  have f0 := hb.free 0
  have f1 := hb.free 1
  by_cases h0 : e = 0
  · have hz : ((e : Int) == 0) = true := by simp; omega
    have hz2 : ((e : Int) != 0) = false := by simp; omega
    by_cases h8 : l.length < 8
    · have e1 : word8 e l = (0, 4, []) := by unfold word8; rw [if_neg (by simpa using h0), if_pos h8]
      rw [e1]
      have h8z : (l.length : Int) < 8 := by omega
      have hs := (hb.set 0 (.slice none 0 0)).set 1 (.int .i64 4)
      have hO : Only (· = cb) w ((w.setCell ⟨cb, 0, none⟩ (.slice none 0 0)).setCell ⟨cb, 1, none⟩ (.int .i64 4)) := ((Only.refl _ _).set1 _ _).set1 _ _
      have H0 := Lib.hid h0
      clear he e1 h8 h0 hl
      go_enter Tryd.func109, Tryd.ntmps109
      go_wp2
      go_ret
      exact ⟨rfl, ⟨hne, none, 0, hs, Nat.le_refl _, fun h => absurd h (by simp)⟩, hO⟩
    · have e1 : word8 e l = (get8 (l.take 8), 0, l.drop 8) := by unfold word8; rw [if_neg (by simpa using h0), if_neg h8]
      rw [e1]
      have h8z : ¬ (l.length : Int) < 8 := by omega
      obtain ⟨o, rfl, hbl, -⟩ := hl.2 (by omega)
      have hlc := hl.1
      have hG := Get8_c _ _ w (hl.take8 (by omega) cap (by omega)) (fun c hc => hby c (List.mem_of_mem_take hc)) (by rw [List.length_take]; omega)
      have HG := Lib.hid hG
      have HL := Lib.hid hl
      have HH := Lib.hid h8
      have HB := Lib.hid hb
      have H0 := Lib.hid h0
      have h8c : (8 : Int) ≤ (cap : Int) := by omega
      have h8l : (8 : Int) ≤ (l.length : Int) := by omega
      generalize get8 (l.take 8) = x at *
      clear he e1 h8 h0 hl hG hb
      by_cases hcap : cap = 8
      · subst hcap
        go_enter Tryd.func109, Tryd.ntmps109
        go_wp2_with (go_at_call 139; refine HG.out.mono ?_; rintro r w' ⟨rfl, rfl⟩)
        go_ret
        have hd := HL.out.drop (n := 8) (by have := HH.out; omega) ⟨bb, o, none⟩ (fun h => by omega)
        have hs := HB.out.set 0 (.slice (some ⟨bb, o, none⟩) 0 0)
        have hO : Only (· = cb) w (w.setCell ⟨cb, 0, none⟩ (.slice (some ⟨bb, o, none⟩) 0 0)) := (Only.refl _ _).set1 _ _
        have e0 := H0.out
        have e8 : (l.drop 8).length = 0 := by rw [List.length_drop]; omega
        refine ⟨rfl, ⟨hne, some ⟨bb, o, none⟩, 0, ?_, ?_⟩, hO⟩
        · subst e0; rw [e8]; simpa using hs
        · exact hd.only hO (fun e => hne e.symm)
      · go_enter Tryd.func109, Tryd.ntmps109
        go_wp2_with (go_at_call 139; refine HG.out.mono ?_; rintro r w' ⟨rfl, rfl⟩)
        go_ret
        have hd := HL.out.drop (n := 8) (by have := HH.out; omega) ⟨bb, o + 8, none⟩ (fun h => rfl)
        have hs := HB.out.set 0 (.slice (some ⟨bb, o + 8, none⟩) (l.length - 8) (cap - 8))
        have hO : Only (· = cb) w (w.setCell ⟨cb, 0, none⟩ (.slice (some ⟨bb, o + 8, none⟩) (l.length - 8) (cap - 8))) := (Only.refl _ _).set1 _ _
        have e0 := H0.out
        refine ⟨rfl, ⟨hne, some ⟨bb, o + 8, none⟩, cap - 8, ?_, ?_⟩, hO⟩
        · subst e0; simpa using hs
        · exact hd.only hO (fun e => hne e.symm)
  · have hl0 := he h0
    subst hl0
    have e1 : word8 e [] = (0, e, []) := by unfold word8; rw [if_pos h0]
    rw [e1]
    have hz : ((e : Int) == 0) = false := by simp; omega
    have hz2 : ((e : Int) != 0) = true := by simp; omega
    clear he e1 h0
    go_enter Tryd.func109, Tryd.ntmps109
    go_wp2
    go_ret
    exact ⟨rfl, ⟨hne, a, cap, hb, hl⟩, Only.refl _ _⟩
end Go.Proofs.YtdcinifcpaldiaaDoor

namespace Go.Proofs.YtdcinifcpaldiaaDoor
open Go.RowKit

set_option maxRecDepth 100000 in
set_option maxHeartbeats 2000000 in
theorem rDecK_err (v : Value) (l : List Nat) (e : Nat) (w : World) (hR : Rd w v (u8s l)) (hb : ∀ c ∈ l, c < 256) (hl : l.length ≤ 1000000) (he : 1 ≤ e) (hN : numC 4095 l = (0, e, [])) :
    Calls Tryd.prog 66 #[v] w fun q w' => ∃ u, q = .returned (.tuple #[u, .int .i64 (e : Int)]) ∧ w'.ownsRow w.heap.size 81 3 u 0 (fl encC []) ∧ Only No w w' := by
  have hfd := piece_field
  obtain ⟨a, cap, rfl, hcap⟩ := hR.cases
  simp only [u8s_len] at hR hcap ⊢
  obtain ⟨bb, hbn, hL⟩ := lies_of_rd hR
  have hO1 := (Only.refl No w).alloc (.cells #[.slice a l.length cap, .int .i64 0] 90)
  have hRC : RCur (w.alloc (.cells #[.slice a l.length cap, .int .i64 0] 90)) w.heap.size bb 0 l := ⟨hbn, a, cap, Blk.new w _ _, hL.only hO1 id⟩
  have HRd := Lib.hid (Read_c w.heap.size bb 0 4095 l _ hRC hb hl)
  unfold pieceV at HRd hfd
  have eN : numE 0 4095 l = (0, e, []) := hN
  rw [eN] at HRd
  have hz : ((e : Int) != 0) = true := by simp; omega
  have hfd0 : ∀ w : World, (Instr.field 94 (.agg #[.int .i64 0, .int .u64 0, .int .u8 0, .int .u8 0, .int .u8 0, .int .u8 0, .int .u8 0, .int .u8 0, .int .u8 0, .int .u8 0, .int .u8 0, .slice none 0 0, .int .i64 0]) 1).run Tryd.prog w = .ok (.int .u64 0) w := fun w => piece_field 0 w
  clear eN hN hb hRC hR hL
  go_enter Tryd.func66, Tryd.ntmps66
  go_wp2_with (go_at_call 65; refine HRd.out.mono ?_; rintro r w2 ⟨rfl, ⟨-, a2, c2, hb2, -⟩, hO2⟩; have k1 : w2.cell? ⟨w.heap.size, 1, none⟩ = some (.int .i64 (e : Int)) := hb2.cell 1 _ rfl)
  go_quiet (fail)
  go_wp2
  go_ret2
  exact ⟨_, rfl, World.ownsRow_nil _ _ _ _, ((hO1.of_no.trans hO2).mono (fun k hk e => by have e' : k = w.heap.size := e; exfalso; omega)).drewN _⟩
set_option maxRecDepth 100000 in
set_option maxHeartbeats 2000000 in
theorem rDecK_not (v : Value) (l r : List Nat) (n : Nat) (w : World) (hR : Rd w v (u8s l)) (hb : ∀ c ∈ l, c < 256) (hl : l.length ≤ 1000000) (hN : numC 4095 l = (n, 0, r)) (hm : ¬ May (n : Int)) :
    Calls Tryd.prog 66 #[v] w fun q w' => ∃ u, q = .returned (.tuple #[u, .int .i64 1]) ∧ w'.ownsRow w.heap.size 81 3 u 0 (fl encC []) ∧ Only No w w' := by
  have hnn : n ≤ 4095 := by have := numC_le 4095 l; rw [hN] at this; exact this
  have HMay := Lib.hid (fun w => rmay_no (n : Int) w hm)
  have hfd := piece_field
  obtain ⟨a, cap, rfl, hcap⟩ := hR.cases
  simp only [u8s_len] at hR hcap ⊢
  obtain ⟨bb, hbn, hL⟩ := lies_of_rd hR
  have hO1 := (Only.refl No w).alloc (.cells #[.slice a l.length cap, .int .i64 0] 90)
  have hRC : RCur (w.alloc (.cells #[.slice a l.length cap, .int .i64 0] 90)) w.heap.size bb 0 l := ⟨hbn, a, cap, Blk.new w _ _, hL.only hO1 id⟩
  have HRd := Lib.hid (Read_c w.heap.size bb 0 4095 l _ hRC hb hl)
  unfold pieceV at HRd hfd
  have eN : numE 0 4095 l = (n, 0, r) := hN
  rw [eN] at HRd
  clear eN hN hb hRC hR hL hm
  go_enter Tryd.func66, Tryd.ntmps66
  go_wp2_with (first
    | (go_at_call 65; refine HRd.out.mono ?_; rintro q w2 ⟨rfl, ⟨-, a2, c2, hb2, -⟩, hO2⟩; have k1 : w2.cell? ⟨w.heap.size, 1, none⟩ = some (.int .i64 0) := hb2.cell 1 _ rfl)
    | (go_at_call 53; refine (HMay.out _).mono ?_; rintro q w' ⟨rfl, rfl⟩))
  go_ret2
  exact ⟨_, rfl, World.ownsRow_nil _ _ _ _, (hO1.of_no.trans hO2).mono (fun k hk e => by have e' : k = w.heap.size := e; exfalso; omega)⟩
set_option maxRecDepth 100000 in
set_option maxHeartbeats 8000000 in
theorem rDecK_on (v : Value) (l r : List Nat) (n : Nat) (w : World) (hR : Rd w v (u8s l)) (hb : ∀ c ∈ l, c < 256) (hl : l.length ≤ 1000000) (hN : numC 4095 l = (n, 0, r)) (hm : May (n : Int)) :
    Calls Tryd.prog 66 #[v] w fun q w' => ∃ u, q = .returned (.tuple #[u, .int .i64 ((decKn n r).2 : Nat)]) ∧ w'.ownsRow w.heap.size 81 3 u (decKn n r).1.length (fl encC (decKn n r).1) ∧ Only No w w' := by
  have hnn : n ≤ 4095 := by have := hm.2.1; omega
  obtain ⟨i1, hinf1, hy0, hy1, hy2⟩ := info_parts info_cell
  have hlr : l = varL n ++ r := (numC_ok hb hN).2
  have hbr : ∀ c ∈ r, c < 256 := fun c hc => hb c (by rw [hlr]; exact List.mem_append_right _ hc)
  have hrl : r.length ≤ 1000000 := by have := congrArg List.length hlr; rw [List.length_append] at this; omega
  obtain ⟨D, hD⟩ : ∃ D, D = cellsD n r := ⟨_, rfl⟩
  obtain ⟨R, hRe⟩ : ∃ R, R = decKn n r := ⟨_, rfl⟩
  have HD := Lib.hid (And.intro hD (show R = finD D by rw [hRe, hD]; rfl))
  rw [← hRe]
  clear hRe hlr hD
  have HMay := Lib.hid (fun w => rmay_yes (n : Int) w hm)
  have hfd := piece_field
  obtain ⟨a, cap, rfl, hcap⟩ := hR.cases
  simp only [u8s_len] at hR hcap ⊢
  obtain ⟨bb, hbn, hL⟩ := lies_of_rd hR
  have hO1 := (Only.refl No w).alloc (.cells #[.slice a l.length cap, .int .i64 0] 90)
  have hRC : RCur (w.alloc (.cells #[.slice a l.length cap, .int .i64 0] 90)) w.heap.size bb 0 l := ⟨hbn, a, cap, Blk.new w _ _, hL.only hO1 id⟩
  have HRd := Lib.hid (Read_c w.heap.size bb 0 4095 l _ hRC hb hl)
  unfold pieceV at HRd hfd
  have eN : numE 0 4095 l = (n, 0, r) := hN
  rw [eN] at HRd
  have HB0 := Lib.hid (And.intro hbr hrl)
  clear eN hN hb hRC hR hL hbr hrl hm
  go_enter Tryd.func66, Tryd.ntmps66
  go_wp2_with (first
    | (go_at_call 65; refine HRd.out.mono ?_; rintro q w4 ⟨rfl, hC4, hO4⟩; have HC4 := Lib.hid hC4; obtain ⟨-, a2, c2, hb2, -⟩ := hC4; have k1 : w4.cell? ⟨w.heap.size, 1, none⟩ = some (.int .i64 0) := hb2.cell 1 _ rfl)
    | (go_at_call 53; refine (HMay.out _).mono ?_; rintro q w' ⟨rfl, rfl⟩))
  have hOw4 : Only No w w4 := (hO1.of_no.trans hO4).mono (fun k hk e => by have e' : k = w.heap.size := e; exfalso; omega)
  have hz4 := hOw4.size
  have hcl := hb2.lt
  generalize hcbe : w.heap.size = cb at *
  have hC4 := HC4.out
  clear HRd k1 hb2 HC4
  go_loopw [6, 7] (fun v7 v8 wr => ∃ (i : Nat) (cs : List Cell) (e' : Nat) (r' : List Nat), i ≤ n ∧ v8 = .int .i64 i ∧ cs.length = i ∧ Bun wr w4.heap.size [(81, 3, v7, cs.length, fl encC cs)] ∧ Only (OutOf cb w4.heap.size) w4 wr ∧
      (RCur wr cb bb e' r' ∧ (e' ≠ 0 → r' = []) ∧ (∀ c ∈ r', c < 256) ∧ r'.length ≤ 1000000 ∧ (0 < r'.length → bb < w4.heap.size)) ∧ D = kept cs (n - i) e' r') (fun _ v8 _ => n - (intOf v8).toNat)
  case atStart => exact ⟨0, [], 0, r, by omega, rfl, rfl, (Bun.nil _ _).cons_nil _ _, Only.refl _ _, ⟨hC4, by simp, HB0.out.1, HB0.out.2, fun h => hC4.bb_lt h⟩, by rw [HD.out.1]; simp [kept]⟩
  case round =>
    obtain ⟨i, cs, e', r', hi, rfl, hcl', hBn, hO, ⟨hC, her, hbr, hrl, hbb⟩, hK⟩ := hrel
    have c5 : wr.cell? ⟨cb, 1, none⟩ = some (.int .i64 (e' : Int)) := by
      obtain ⟨-, _, _, hbw, -⟩ := hC
      exact hbw.cell 1 _ rfl
    have hOe : Only No w wr := ((hOw4.of_no (S := OutOf cb w4.heap.size)).trans hO).mono (fun k hk e => by rcases e with e | e <;> (exfalso; omega))
    obtain ⟨ya, yc, rfl⟩ := bun_is hBn 0 rfl
    have HCL := Lib.hid hcl'
    have hy8 : cs.length ≤ 4095 := by omega
    have HK := Lib.hid hK
    clear hC4 hO4 hOw4 hcl' hK
    generalize wr = wk at *
    by_cases hgo : i < n ∧ e' = 0
    · obtain ⟨hlt, he0⟩ := hgo
      subst he0
      obtain ⟨N, e1, r1, hA⟩ : ∃ N e1 r1, numC 4294967295 r' = (N, e1, r1) := ⟨_, _, _, rfl⟩
      obtain ⟨x, e2, r2, hX⟩ : ∃ x e2 r2, word8 e1 r1 = (x, e2, r2) := ⟨_, _, _, rfl⟩
      obtain ⟨y, e3, r3, hY⟩ : ∃ y e3 r3, word8 e2 r2 = (y, e3, r3) := ⟨_, _, _, rfl⟩
      have hc1 : cell1 r' = ((zag N, x, y), e3, r3) := by unfold cell1; simp only [hA, hX, hY]
      have hNl : N ≤ 4294967295 := by have := numC_le 4294967295 r'; rw [hA] at this; exact this
      have hq1 := numC_rest (most := 4294967295) hbr
      rw [hA] at hq1
      obtain ⟨qa, qb, qc⟩ := hq1
      have hq2 := word8_rest qa qb
      rw [hX] at hq2
      obtain ⟨qd, qe, qf, qx⟩ := hq2
      have hq3 := word8_rest qd qe
      rw [hY] at hq3
      obtain ⟨qg, qh, qi, qy⟩ := hq3
      simp only at qa qb qc qd qe qf qx qg qh qi qy
      have HNm := Read_c cb bb 0 4294967295 r' wk hC hbr hrl
      have eA : numE 0 4294967295 r' = (N, e1, r1) := hA
      rw [eA] at HNm
      unfold pieceV at HNm
      have HNm' := Lib.hid HNm
      have HZg := Lib.hid (fun W => rZag_c N W hNl)
      obtain ⟨hz1, hz2⟩ := zag_r hNl
      have HK2 := Lib.hid (show D = kept (cs ++ [(zag N, x, y)]) (n - (i + 1)) e3 r3 by
        rw [HK.out, show n - i = (n - (i + 1)) + 1 by omega, kept_step, hc1])
      have HW1 := Lib.hid (fun (W : World) hC => Eight_c cb bb e1 r1 W hC qa qb (by omega))
      rw [hX] at HW1
      have HW2 := Lib.hid (fun (W : World) hC => Eight_c cb bb e2 r2 W hC qd qe (by omega))
      rw [hY] at HW2
      have HQ := Lib.hid (And.intro qg (And.intro qh (show r3.length ≤ 1000000 by omega)))
      have hq31 : 0 < r3.length → bb < w4.heap.size := fun h => hbb (by omega)
      have hq21 : 0 < r2.length → bb < w4.heap.size := fun h => hbb (by omega)
      have hq11 : 0 < r1.length → bb < w4.heap.size := fun h => hbb (by omega)
      have HBB := Lib.hid (And.intro hq11 (And.intro hq21 hq31))
      have hi0 : (0 : Int) ≤ (i : Int) := by omega
      have hin : (i : Int) < (n : Int) := by omega
      generalize zag N = z at *
      have hzk := hO.size
      have HC := Lib.hid hC
      clear hA hX hY hc1 HNm eA qa qb qc qd qe qf qg qh qi hq31 hq21 hq11 hbr her hrl hbb hC
      go_wp2_with (first
        | (go_at_call 65; refine HNm'.out.mono ?_; rintro q w5 ⟨rfl, hC5, hO5⟩)
        | (go_at_call 108; refine (HZg.out _).mono ?_; rintro q w' ⟨rfl, rfl⟩))
      generalize hW6 : w5.alloc _ = w6
      have hbc6 : Blk w6 w5.heap.size #[.int .i32 z, .int .u64 0, .int .u64 0] 81 := by rw [← hW6]; exact Blk.new w5 _ _
      have hO6 : Only No w5 w6 := by rw [← hW6]; exact (Only.refl _ _).alloc _
      have hz5 := hO5.size
      have hz6 := hO6.size
      have hbne : w5.heap.size ≠ cb := by omega
      generalize hBC : w5.heap.size = bc at *
      have hC6 := hC5.no hO6
      have HB6 := Lib.hid (And.intro hbc6 hC6)
      clear hW6 c5
      go_wp2_with (go_at_call 109; refine (HW1.out w6 hC6).mono ?_; rintro q w7 ⟨rfl, hC7, hO7⟩; have hbc7 := hO7.blk hbc6 hbne; have b1 : w7.cell? ⟨bc, 1, none⟩ = some (.int .u64 0) := hbc7.cell 1 _ rfl; have f1 := hbc7.free 1)
      generalize hW8 : w7.setCell _ _ = w8
      have hbc8 : Blk w8 bc #[.int .i32 z, .int .u64 (x : Int), .int .u64 0] 81 := by rw [← hW8]; exact hbc7.set 1 _
      have hO8 : Only (· = bc) w7 w8 := by rw [← hW8]; exact Only.set1 (Only.refl _ _) _ _
      have hC8 := hC7.only' hO8 (fun e => hbne e.symm) (fun h e => by have := HBB.out.2.1 h; have e' : bb = bc := e; omega)
      clear hW8 b1 f1
      go_wp2_with (first
        | (go_at_call 109; refine (HW2.out w8 hC8).mono ?_; rintro q w9 ⟨rfl, hC9, hO9⟩; have hbc9 := hO9.blk hbc8 hbne; have b0 : w9.cell? ⟨bc, 0, none⟩ = some (.int .i32 z) := hbc9.cell 0 _ rfl; have b1 : w9.cell? ⟨bc, 1, none⟩ = some (.int .u64 (x : Int)) := hbc9.cell 1 _ rfl; have b2 : w9.cell? ⟨bc, 2, none⟩ = some (.int .u64 0) := hbc9.cell 2 _ rfl; have f2 := hbc9.free 2; have hT : Only (· = cb) wk w9 := ((((hO5.then hO6 (fun _ _ e => e.elim)).then hO7 (fun _ _ e => e)).then hO8 (fun i hi e => by exfalso; have e' : i = bc := e; omega)).then hO9 (fun _ _ e => e)); have hTS := hT.then ((Only.refl (· = bc) w9).set1 2 (.int .u64 (y : Int))) (fun i hi e => by exfalso; have e' : i = bc := e; omega); have hBS := hBn.only hTS (fun k hk e => by have e' : k = cb := e; omega); have hCS := hC9.only' ((Only.refl (· = bc) w9).set1 2 (.int .u64 (y : Int))) (fun e => hbne e.symm) (fun h e => by have := HBB.out.2.2 h; have e' : bb = bc := e; omega); have hzS : w4.heap.size ≤ (w9.setCell ⟨bc, 2, none⟩ (.int .u64 (y : Int))).heap.size := Nat.le_trans hzk hTS.size; have HS := Lib.hid (And.intro hTS (And.intro hBS hCS)))
        | (at_builtin; refine wpList_append1o rfl (.tmp 55) (.tmp 57) 42 rfl w4.heap.size 81 i1 _ 3 24 Tryd.underlying42 hinf1 hy0 hy1 hy2 rfl (by decide) _ HS.out.2.1 0 _ _ _ rfl rfl [.int .i32 z, .int .u64 (x : Int), .int .u64 (y : Int)] _ w9.heap.size (by simp) rfl rfl (by simp [Value.oneCell']) (by unfold maxLen; omega) (by omega) hzS ?_; intro g6 d6 w10 hB10 hO10))
      go_roundw
      case rel =>
        have hlt10 := fun b e => ((HS.out.2.1.owns 0 _ rfl).lt (b := b) e).1
        have hC10 := HS.out.2.2.only' hO10 (fun e => by have := hlt10 _ e; omega) (fun h e => by have := hlt10 _ e; have := HBB.out.2.2 h; omega)
        refine ⟨i + 1, cs ++ [(z, x, y)], e3, r3, by omega, by go_num, by have := HCL.out; simp; omega, by simpa [List.set, fl_snoc, encC] using hB10, (hO.trans (HS.out.1.mono (fun k _ e => .inl e))).trans (hO10.mono (fun k _ e => .inr (hlt10 _ e))), ⟨hC10, HQ.out.1, HQ.out.2.1, HQ.out.2.2, HBB.out.2.2⟩, HK2.out⟩
      case measure => simp [intOf]; omega
    · have hDe : D = (cs, e', r') := by
        rw [HK.out]
        by_cases he : e' ≠ 0
        · exact kept_off cs he
        · have hin : n - i = 0 := by omega
          rw [hin]
          exact kept_end cs e' r'
      have HDn := Lib.hid (rDone_c cb bb e' r' wk hC her)
      have hRR : R = finD (cs, e', r') := by rw [HD.out.2, hDe]
      have hRy : wk.ownsRow cb 81 3 _ _ _ := row_lower (show wk.ownsRow w4.heap.size 81 3 _ _ _ from hBn.owns 0 _ rfl) hz4
      obtain ⟨dn, hdn⟩ : ∃ dn, dn = doneE e' r' := ⟨_, rfl⟩
      rw [← hdn] at HDn
      by_cases hd0 : dn = 0
      · have hR0 : R = (cs, 0) := by rw [hRR]; unfold finD; simp only; rw [← hdn, if_neg (by omega)]
        subst hR0
        have hz : ((dn : Int) != 0) = false := by simp; omega
        have HH := Lib.hid (And.intro hdn hgo)
        clear hDe hRR hdn hd0
        by_cases hin : i < n
        · have hinz : (i : Int) < (n : Int) := by omega
          have hez : ((e' : Int) == 0) = false := by simp; omega
          clear hgo
          go_wp2_with (go_at_call 67; refine HDn.out.mono ?_; rintro q w' ⟨rfl, rfl⟩)
          go_ret2
          exact ⟨_, rfl, hRy, hOe⟩
        · have hinz : ¬ (i : Int) < (n : Int) := by omega
          clear hgo
          go_wp2_with (go_at_call 67; refine HDn.out.mono ?_; rintro q w' ⟨rfl, rfl⟩)
          go_ret2
          exact ⟨_, rfl, hRy, hOe⟩
      · have hR0 : R = ([], dn) := by rw [hRR]; unfold finD; simp only; rw [← hdn, if_pos hd0]
        subst hR0
        have hz : ((dn : Int) != 0) = true := by simp; omega
        have HH := Lib.hid (And.intro hdn hgo)
        clear hDe hRR hdn hd0
        by_cases hin : i < n
        · have hinz : (i : Int) < (n : Int) := by omega
          have hez : ((e' : Int) == 0) = false := by simp; omega
          clear hgo
          go_wp2_with (go_at_call 67; refine HDn.out.mono ?_; rintro q w' ⟨rfl, rfl⟩)
          go_ret2
          exact ⟨_, rfl, World.ownsRow_nil _ _ _ _, hOe⟩
        · have hinz : ¬ (i : Int) < (n : Int) := by omega
          clear hgo
          go_wp2_with (go_at_call 67; refine HDn.out.mono ?_; rintro q w' ⟨rfl, rfl⟩)
          go_ret2
          exact ⟨_, rfl, World.ownsRow_nil _ _ _ _, hOe⟩
theorem rDecK_o (v : Value) (l : List Nat) (w : World) (hR : Rd w v (u8s l)) (hb : ∀ c ∈ l, c < 256) (hl : l.length ≤ 1000000) :
    Calls Tryd.prog 66 #[v] w fun q w' => ∃ u, q = .returned (.tuple #[u, .int .i64 ((decK l).2 : Nat)]) ∧ w'.ownsRow w.heap.size 81 3 u (decK l).1.length (fl encC (decK l).1) ∧ Only No w w' := by
  obtain ⟨n, e, r, hN⟩ : ∃ n e r, numC 4095 l = (n, e, r) := ⟨_, _, _, rfl⟩
  by_cases he : e = 0
  · subst he
    by_cases hm : May (n : Int)
    · rw [decK_may hN hm]
      exact rDecK_on v l r n w hR hb hl hN hm
    · rw [decK_not hN hm]
      exact rDecK_not v l r n w hR hb hl hN hm
  · rw [decK_err hN he]
    have := numC_err (most := 4095) (b := l) (by rw [hN]; exact he)
    rw [hN] at this
    simp at this
    obtain ⟨rfl, rfl⟩ := this
    exact rDecK_err v l e w hR hb hl (by omega) hN
theorem rDecK_c (v : Value) (l : List Nat) (w : World) (hR : Rd w v (u8s l)) (hb : ∀ c ∈ l, c < 256) (hl : l.length ≤ 1000000) :
    Calls Tryd.prog 66 #[v] w fun q w' => ∃ u, q = .returned (.tuple #[u, .int .i64 ((decK l).2 : Nat)]) ∧ RdN 3 w' u (decK l).1.length (fl encC (decK l).1) ∧ Only No w w' := by
  refine (rDecK_o v l w hR hb hl).mono ?_
  rintro q w' ⟨u, h1, h2, h3⟩
  exact ⟨u, h1, RdN.of_row h2, h3⟩
end Go.Proofs.YtdcinifcpaldiaaDoor
