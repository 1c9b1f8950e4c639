/- num.Print writes the digits: the walk. No statement is proved here. -/
import Derived.Test.YtlilhdkaaendlaaNum
import Derived.Test.YtlilhdkaaendlaaBase
namespace Go.Proofs.Ytlilhdkaaendlaa
open Go.RowKit

theorem slice20 (b k : Nat) (W : World) (h : k < 20) : (Instr.sliceAt 139 (.pointer (some ⟨b, 0, none⟩)) (some (.int .i64 (k : Int))) none none).run Try.prog W = .ok (.slice (some ⟨b, k, none⟩) (20 - k) (20 - k)) W := by
  have hl : Try.prog.arrayLen 139 = 20 := by kernel_rfl
  have he : Try.prog.elem 139 = 5 := by kernel_rfl
  have hs : ∀ W : World, (sizeOf 5).run Try.prog W = .ok 1 W := fun _ => by kernel_rfl
  rw [run_sliceAt_array_l W _ _ (by rw [Try.underlying139, hl, he]) .i64 k (by omega) (by rw [hl]; omega), he, hs, hl]
  simp only [Result.andThen_ok, slicedAt, Int.toNat_natCast]
  rw [if_neg (by omega), add_none rfl]
  simp
theorem digit_const (d : Int) (W : World) (h0 : 0 ≤ d) (h1 : d < 10) :
    (Instr.index 9 (.string ⟨#[48, 49, 50, 51, 52, 53, 54, 55, 56, 57]⟩) (.int .i64 d)).run Try.prog W = .ok (.int .u8 (48 + d)) W := by
  obtain ⟨n, rfl⟩ := Int.eq_ofNat_of_zero_le h0
  have hn : n < 10 := by omega
  rw [run_index_string W 9 _ .i64 n Try.underlying9]
  rw [dif_pos ⟨by omega, (by show (n : Int) < ((10 : Nat) : Int); omega)⟩]
  have e : ∀ k : Fin 10, ((⟨#[48, 49, 50, 51, 52, 53, 54, 55, 56, 57]⟩ : ByteArray)[k.val]'k.isLt).toNat = 48 + k.val := by decide
  have he := e ⟨n, hn⟩
  simp only [Int.toNat_natCast]
  rw [he]
  simp

/-- What holds at the label: acc has been written behind at; r is left. -/
structure PrintJ (n : Int) (B at_ : Nat) (r : Int) (acc : List UInt8) (wr : World) (w : World) : Prop where
  cur : ∃ cur : Array Value, Blk wr B cur 139 ∧ cur.size = 20 ∧ ∀ i (h : i < acc.length), cur[at_ + i]? = some (.int .u8 (acc[i].toNat : Int))
  len : at_ + acc.length = 20
  lim : acc.length ≤ 18
  dig : digs n.natAbs = digs r.natAbs ++ acc
  big : r.natAbs * 10 ^ acc.length ≤ n.natAbs
  nz : acc = [] ∨ r ≠ 0
  r0 : -9223372036854775808 ≤ r
  r1 : r ≤ 9223372036854775807
  only : Only No w wr

theorem strOfNums_bytes (l : List UInt8) : strOfNums (l.map fun c => (c.toNat : Int)) = ⟨l.toArray⟩ := by
  unfold strOfNums
  rw [List.map_map]
  have : ((fun n : Int => UInt8.ofNat n.toNat) ∘ fun c : UInt8 => (c.toNat : Int)) = id := by funext c; simp
  rw [this, List.map_id]
theorem u8_of (d : Nat) (h : d < 10) : ((UInt8.ofNat (48 + d)).toNat : Int) = 48 + (d : Int) := by
  simp only [UInt8.toNat_ofNat']
  omega
theorem PrintJ.cells {n : Int} {B at_ : Nat} {r : Int} {acc : List UInt8} {wr w : World} (h : PrintJ n B (at_ + 1) r acc wr w) (d : Nat) (hd : d < 10) :
    ∃ cur : Array Value, Blk (wr.setCell ⟨B, at_, none⟩ (.int .u8 (48 + (d : Int)))) B cur 139 ∧ cur.size = 20 ∧
      ∀ i (hi : i < (UInt8.ofNat (48 + d) :: acc).length), cur[at_ + i]? = some (.int .u8 ((UInt8.ofNat (48 + d) :: acc)[i].toNat : Int)) := by
  obtain ⟨cur, hb, hsz, hc⟩ := h.cur
  have hl := h.len
  refine ⟨_, hb.set at_ (.int .u8 (48 + (d : Int))), by simpa using hsz, fun i hi => ?_⟩
  cases i with
  | zero => simp [hsz, show at_ < 20 by omega]; exact (u8_of d hd).symm
  | succ i =>
    have := hc i (by simpa using hi)
    rw [Array.getElem?_setIfInBounds, if_neg (by omega)]
    rw [show at_ + (i + 1) = at_ + 1 + i by omega]
    exact this
theorem PrintJ.conv {n : Int} {B at_ : Nat} {r : Int} {acc : List UInt8} {wr w : World} (h : PrintJ n B (at_ + 1) r acc wr w) (d : Nat) (hd : d < 10) :
    (convert 52 9 (.slice (some ⟨B, at_, none⟩) (20 - at_) (20 - at_))).run Try.prog (wr.setCell ⟨B, at_, none⟩ (.int .u8 (48 + (d : Int)))) =
      .ok (.string ⟨(UInt8.ofNat (48 + d) :: acc).toArray⟩) (wr.setCell ⟨B, at_, none⟩ (.int .u8 (48 + (d : Int)))) := by
  obtain ⟨cur, hb, hsz, hc⟩ := h.cells d hd
  have hl := h.len
  have := run_convert_bytes_arg (P := Try.prog) (wr.setCell ⟨B, at_, none⟩ (.int .u8 (48 + (d : Int)))) 52 5 Try.underlying52 Try.underlying5 B at_ (20 - at_) (20 - at_)
    ((UInt8.ofNat (48 + d) :: acc).map fun c => (c.toNat : Int)) (by simp; omega) (fun i hi => ?_) 9 Try.underlying9
  · rw [this]
    rw [strOfNums_bytes]
  · have hi' : i < (UInt8.ofNat (48 + d) :: acc).length := by simp; omega
    refine hb.cell _ _ ?_
    rw [hc i hi']
    rw [List.getD_eq_getElem?_getD, List.getElem?_map, List.getElem?_eq_getElem hi']
    simp
theorem PrintJ.next {n : Int} {B at_ : Nat} {r q : Int} {acc : List UInt8} {wr w : World} (h : PrintJ n B (at_ + 1) r acc wr w) (d : Nat) (hd : d < 10) (hr : r.natAbs = q.natAbs * 10 + d) (hq : q ≠ 0)
    (q0 : -9223372036854775808 ≤ q) (q1 : q ≤ 9223372036854775807) (hn : n.natAbs ≤ 9223372036854775808) (hB : w.heap.size ≤ B) : PrintJ n B at_ q (UInt8.ofNat (48 + d) :: acc) (wr.setCell ⟨B, at_, none⟩ (.int .u8 (48 + (d : Int)))) w := by
  have hl := h.len
  have hb := h.big
  have hqa : 1 ≤ q.natAbs := by omega
  have hbig : q.natAbs * 10 ^ (acc.length + 1) ≤ n.natAbs := by
    refine Nat.le_trans ?_ hb
    rw [Nat.pow_succ, hr, Nat.add_mul, Nat.mul_comm (10 ^ acc.length) 10, ← Nat.mul_assoc]
    omega
  refine ⟨h.cells d hd, by simp; omega, ?_, ?_, by simpa using hbig, .inr hq, q0, q1, h.only.setCell _ _ (fun hk => absurd hk (by simp; omega))⟩
  · have hp : 10 ^ (acc.length + 1) ≤ 9223372036854775808 := by
      refine Nat.le_trans ?_ (Nat.le_trans hbig hn)
      exact Nat.le_mul_of_pos_left _ hqa
    rcases Nat.lt_or_ge 18 (acc.length + 1) with hlt | hge
    · have := Nat.pow_le_pow_right (show 0 < 10 by omega) (show 19 ≤ acc.length + 1 by omega)
      have e : 10 ^ 19 = 10000000000000000000 := by decide
      omega
    · simpa using hge
  · rw [h.dig, digs_ge (by omega), show r.natAbs / 10 = q.natAbs by omega, show r.natAbs % 10 = d by omega]
    simp
theorem PrintJ.last {n : Int} {B at_ : Nat} {r : Int} {acc : List UInt8} {wr w : World} (h : PrintJ n B (at_ + 1) r acc wr w) (d : Nat) (hd : d < 10) (hr : r.natAbs = d) : digs n.natAbs = UInt8.ofNat (48 + d) :: acc := by
  rw [h.dig, hr, digs_lt hd]
  rfl

/-- The number in a slot, as a measure. -/
def slotNat (i : Nat) (a : Act) (_ : World) : Nat := (intOf (a.tmps.getD i undef)).toNat
def PrintA (n : Int) (w : World) (a' : Act) (wr : World) : Prop := ∃ (at_ : Nat) (r : Int) (acc : List UInt8) (u1 u6 u7 u8 u9 u10 u11 u12 u13 u14 u15 u16 u17 u18 u19 u20 u21 u22 u23 u24 u25 u26 u27 u28 u29 u30 u31 u32 : Value),
      a' = { tmps := #[.int .i64 n, u1, .string ⟨#[]⟩, .pointer (some ⟨w.heap.size, 0, none⟩), .int .i64 at_, .int .i64 r, u6, u7, u8, u9, u10, u11, u12, u13, u14, u15, u16, u17, u18, u19, u20, u21, u22, u23, u24, u25, u26, u27, u28, u29, u30, u31, u32], defers := [] } ∧ PrintJ n w.heap.size at_ r acc wr w

set_option maxRecDepth 100000 in
set_option maxHeartbeats 1600000 in
theorem print_c (n : Int) (w : World) (h0 : -9223372036854775808 ≤ n) (h1 : n ≤ 9223372036854775807) :
    Calls Try.prog 50 #[.int .i64 n] w fun e w' => e = .returned (.string ⟨(printM n).toArray⟩) ∧ Only No w w' := by
  go_enter Try.func50, Try.ntmps50
  go_wp2
  refine wp_scope_again 0 (PrintA n w) (slotNat 4) rfl ?pass ?first
  case pass =>
    rintro a' wr ⟨at_, r, acc, u1, u6, u7, u8, u9, u10, u11, u12, u13, u14, u15, u16, u17, u18, u19, u20, u21, u22, u23, u24, u25, u26, u27, u28, u29, u30, u31, u32, rfl, hJ⟩
    obtain ⟨cur, hb, hsz, hcur⟩ := hJ.cur
    have hat : at_ ≤ 20 := by have := hJ.len; omega
    have hat' : 2 ≤ at_ := by have := hJ.len; have := hJ.lim; omega
    obtain ⟨at_, rfl⟩ : ∃ m, at_ = m + 1 := ⟨at_ - 1, by omega⟩
    have r0 := hJ.r0
    have r1 := hJ.r1
    obtain ⟨x, hx⟩ : ∃ x, cur[at_]? = some x := ⟨_, Array.getElem?_eq_getElem (by omega)⟩
    have hc := hb.cell at_ x hx
    have hf := hb.free at_
    clear hcur hx
    have a0 : (0 : Int) ≤ (at_ : Int) := by omega
    have a1 : (at_ : Int) < 20 := by omega
    have hsl := fun W : World => slice20 w.heap.size at_ W (by omega)
    have hna : n.natAbs ≤ 9223372036854775808 := by omega
    have hlim := hJ.lim
    have key : ∃ (d : Nat) (q : Int), d < 10 ∧ r.natAbs = q.natAbs * 10 + d ∧ -9223372036854775808 ≤ q ∧ q ≤ 9223372036854775807 ∧ ((0 ≤ r ∧ r % 10 = d ∧ r / 10 = q) ∨ (r < 0 ∧ r.tmod 10 = (d : Int) ∧ r.tdiv 10 = q) ∨ (r < 0 ∧ 0 < d ∧ r.tmod 10 = -(d : Int) ∧ r.tdiv 10 = q)) := by
      by_cases hr : 0 ≤ r
      · exact ⟨(r % 10).toNat, r / 10, by omega, by omega, by omega, by omega, .inl ⟨hr, by omega, rfl⟩⟩
      · have e1 : r.tmod 10 = -((-r) % 10) := by
          have := Int.neg_tmod (-r) 10
          rw [Int.neg_neg] at this
          rw [this, Int.tmod_eq_emod_of_nonneg (by omega)]
        have e2 : r.tdiv 10 = -((-r) / 10) := by
          have := Int.neg_tdiv (-r) 10
          rw [Int.neg_neg] at this
          rw [this, Int.tdiv_eq_ediv_of_nonneg (by omega)]
        by_cases hz : (-r) % 10 = 0
        · exact ⟨((-r) % 10).toNat, -((-r) / 10), by omega, by omega, by omega, by omega, .inr (.inl ⟨by omega, by omega, e2⟩)⟩
        · exact ⟨((-r) % 10).toNat, -((-r) / 10), by omega, by omega, by omega, by omega, .inr (.inr ⟨by omega, by omega, by omega, e2⟩)⟩
    obtain ⟨d, q, hd, hrq, q0, q1, hcase⟩ := key
    have hix := fun W : World => digit_const (d : Int) W (by omega) (by omega)
    have hcv := hJ.conv d hd
    obtain ⟨sv, hsv⟩ : ∃ sv : ByteArray, sv = ⟨(UInt8.ofNat (48 + d) :: acc).toArray⟩ := ⟨_, rfl⟩
    rw [← hsv] at hcv
    have hss : sv.size ≤ 20 := by rw [hsv]; simp [ByteArray.size]; omega
    have HR := Lib.hid hrq
    have HS := Lib.hid hsv
    clear hrq hsv hlim hsz hb hat hat'
    by_cases hz : q = 0
    · subst hz
      have hl := hJ.last d hd (by have := HR.out; simpa using this)
      have HL := Lib.hid hl
      have hO := hJ.only.setCell ⟨w.heap.size, at_, none⟩ (.int .u8 (48 + (d : Int))) (fun hk => absurd hk (by simp))
      clear hl
      by_cases hn : n < 0
      · have hfin : ({ data := #[45] } : ByteArray) ++ sv = ⟨(printM n).toArray⟩ := by
          rw [HS.out, printM, if_pos hn, HL.out]
          apply ByteArray.ext
          simp [ByteArray.data_append]
        have HF := Lib.hid hfin
        clear hfin
        rcases hcase with ⟨hr, hm, hq⟩ | ⟨hr, hm, hq⟩ | ⟨hr, hd0, hm, hq⟩
        all_goals
          go_wp2
          simp only [Exit.jump]
          go_ret
          exact ⟨ret_eq (congrArg Value.string HF.out), hO⟩
      · have hfin : sv = ⟨(printM n).toArray⟩ := by rw [HS.out, printM, if_neg hn, HL.out]
        have HF := Lib.hid hfin
        clear hfin
        rcases hcase with ⟨hr, hm, hq⟩ | ⟨hr, hm, hq⟩ | ⟨hr, hd0, hm, hq⟩
        all_goals
          go_wp2
          simp only [Exit.jump]
          go_ret
          exact ⟨ret_eq (congrArg Value.string HF.out), hO⟩
    · have hqz : (q != 0) = true := by simpa using hz
      have hN := hJ.next d hd HR.out hz q0 q1 hna (Nat.le_refl _)
      rcases hcase with ⟨hr, hm, hq⟩ | ⟨hr, hm, hq⟩ | ⟨hr, hd0, hm, hq⟩
      all_goals
        go_wp2_with (go_step3)
        simp only [Exit.jump]
        refine ⟨by trivial, ⟨at_, q, _, _, _, _, _, _, _, _, _, _, _, _, _, _, _, _, _, _, _, _, _, _, _, _, _, _, _, _, _, rfl, hN⟩, ?_⟩
        simp [slotNat, intOf]
  case first =>
    intro hH
    go_wp2
    refine wp_label ?_
    go_step
    go_step
    refine hH.out _ _ ⟨20, n, [], _, _, _, _, _, _, _, _, _, _, _, _, _, _, _, _, _, _, _, _, _, _, _, _, _, _, _, _, rfl, ?_⟩
    exact ⟨⟨_, Blk.new _ _ _, rfl, by simp⟩, rfl, by simp, by simp, by simp, .inl rfl, h0, h1, (Only.refl _ _).alloc _⟩
end Go.Proofs.Ytlilhdkaaendlaa
