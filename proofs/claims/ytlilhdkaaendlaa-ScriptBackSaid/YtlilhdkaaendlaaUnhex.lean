/- Digits as bytes: the program's and the document's. No statement is proved here. -/
import Derived.Test.YtlilhdkaaendlaaHex
namespace Go.Proofs.Ytlilhdkaaendlaa
open Go.RowKit

def hx (c : UInt8) : Nat := (hexD c).toNat
theorem hexD_le (c : UInt8) : hexD c ≤ 15 := by
  unfold hexD
  split
  · omega
  · split <;> omega
theorem hx_lt (c : UInt8) : hx c < 16 := by
  have := hexD_le c
  unfold hx
  omega
def fullB (l : List UInt8) (k : Nat) : UInt8 := UInt8.ofNat (16 * hx (l.getD (2 * k) 0) + hx (l.getD (2 * k + 1) 0))
def okH (l : List UInt8) : Bool := l.all fun c => decide (0 ≤ hexD c)
def unhexM (l : List UInt8) : List UInt8 × Int := if l = [45] then ([], 0) else if l.length = 0 ∨ l.length % 2 = 1 then ([], 3) else if okH l = true then ((List.range (l.length / 2)).map (fullB l), 0) else ([], 3)
def outB (l : List UInt8) (i k : Nat) : UInt8 := if 2 * k + 1 < i then fullB l k else if 2 * k < i then UInt8.ofNat (hx (l.getD (2 * k) 0)) else 0
def outL (l : List UInt8) (m i : Nat) : List UInt8 := (List.range m).map (outB l i)
theorem outL_len (l : List UInt8) (m i : Nat) : (outL l m i).length = m := by simp [outL]
theorem outL_get (l : List UInt8) (m i k : Nat) (h : k < m) : (outL l m i)[k]? = some (outB l i k) := by simp [outL, List.getElem?_range h]
theorem outL_step (l : List UInt8) (m i : Nat) (_h : i < 2 * m) (c : UInt8) (_hc : l[i]? = some c) : (outL l m i).set (i / 2) (outB l (i + 1) (i / 2)) = outL l m (i + 1) := by
  refine List.ext_getElem? fun k => ?_
  by_cases hk : k < m
  · rw [outL_get l m _ k hk, List.getElem?_set]
    by_cases e : i / 2 = k
    · rw [if_pos e, if_pos (by rw [outL_len]; omega), e]
    · rw [if_neg e, outL_get l m _ k hk]
      have e1 : (2 * k + 1 < i) = (2 * k + 1 < i + 1) := propext ⟨fun _ => by omega, fun _ => by omega⟩
      have e2 : (2 * k < i) = (2 * k < i + 1) := propext ⟨fun _ => by omega, fun _ => by omega⟩
      unfold outB
      simp only [e1, e2]
  · rw [List.getElem?_eq_none (by rw [List.length_set, outL_len]; omega), List.getElem?_eq_none (by rw [outL_len]; omega)]
theorem outL_zero (l : List UInt8) (m : Nat) : outL l m 0 = List.replicate m 0 := by
  refine List.ext_getElem (by simp [outL]) fun k h1 h2 => ?_
  simp [outL, outB]
theorem outL_full (l : List UInt8) (m : Nat) : outL l m (2 * m) = (List.range m).map (fullB l) := by
  refine List.map_congr_left fun k hk => ?_
  rw [List.mem_range] at hk
  unfold outB
  rw [if_pos (by omega)]
theorem info_byte : (Try.prog.info? 5).map (fun i => (i.zero, i.size, i.bytes)) = some (some (.int .u8 0), 1, 1) := by kernel_rfl
theorem make_bytes (n : Nat) (W : World) (hn : n ≤ 1000000000) : (Instr.makeSlice 52 (.int .i64 (n : Int)) (.int .i64 (n : Int))).run Try.prog W =
    .ok (.slice (some ⟨W.heap.size, 0, none⟩) n n) (W.alloc (.cells (bys (List.replicate n 0)).toArray 5)) := by
  obtain ⟨i0, hi, hz0, hz1, hz2⟩ := info_parts info_byte
  have := run_make W 52 5 i0 _ Try.underlying52 hi hz0 .i64 .i64 (n : Int) (n : Int) (by omega) (by omega) (by rw [hz2]; omega) (by omega)
  rw [hz1, Nat.mul_one] at this
  have e : (bys (List.replicate n 0)).toArray = madeCells #[.int .u8 0] n := by
    refine Array.ext (by simp [bys, size_madeCells]) fun k h1 h2 => ?_
    simp [bys, madeCells, Nat.mod_one]
  rw [e]
  simpa [Value.cells] using this
theorem or_dig (a b : Fin 16) : bits BinOp.or .u8 (((a.val : Nat) : Int) * 16 % 256) ((b.val : Nat) : Int) = ((16 * a.val + b.val : Nat) : Int) := by
  revert a b
  decide
theorem out_or (l : List UInt8) (i : Nat) (c : UInt8) (hc : l[i]? = some c) (hp : 0 ≤ hexD c) : bits BinOp.or .u8 ((((outB l i (i / 2)).toNat : Nat) : Int) * 16 % 256) (hexD c) = (((outB l (i + 1) (i / 2)).toNat : Nat) : Int) := by
  have hd : hexD c = (hx c : Int) := by unfold hx; omega
  have hx1 := hx_lt c
  rw [hd]
  have hgc : l.getD i 0 = c := by rw [List.getD_eq_getElem?_getD, hc]; rfl
  rcases Nat.mod_two_eq_zero_or_one i with h | h
  · have h1 : (outB l i (i / 2)).toNat = 0 := by
      unfold outB
      rw [if_neg (by omega), if_neg (by omega)]
      rfl
    have h2 : (outB l (i + 1) (i / 2)).toNat = hx c := by
      unfold outB
      rw [if_neg (by omega), if_pos (by omega), show 2 * (i / 2) = i by omega, hgc]
      simp
      omega
    rw [h1, h2]
    have := or_dig ⟨0, by omega⟩ ⟨hx c, hx1⟩
    simpa using this
  · have hx2 := hx_lt (l.getD (2 * (i / 2)) 0)
    have h1 : (outB l i (i / 2)).toNat = hx (l.getD (2 * (i / 2)) 0) := by
      unfold outB
      rw [if_neg (by omega), if_pos (by omega), UInt8.toNat_ofNat', Nat.mod_eq_of_lt (by omega)]
    have h2 : (outB l (i + 1) (i / 2)).toNat = 16 * hx (l.getD (2 * (i / 2)) 0) + hx c := by
      unfold outB fullB
      rw [if_pos (by omega), show 2 * (i / 2) + 1 = i by omega, hgc, UInt8.toNat_ofNat', Nat.mod_eq_of_lt (by omega)]
    rw [h1, h2]
    exact or_dig ⟨_, hx2⟩ ⟨hx c, hx1⟩
def BytesR (r : List UInt8) (e : Int) (w : World) (x : Ending) (w' : World) : Prop := ∃ v, x = .returned (.tuple #[v, .int .i64 e]) ∧ Sees w' v (bys r) ∧ (∀ k, v.ownBlock = some k → w.heap.size ≤ k) ∧ Only No w w'
theorem okH_no {l : List UInt8} {i : Nat} {c : UInt8} (hc : l[i]? = some c) (h : hexD c < 0) : okH l = false := by
  unfold okH
  rw [List.all_eq_false]
  exact ⟨c, List.mem_of_getElem? hc, by simp; omega⟩

set_option maxRecDepth 100000 in
set_option maxHeartbeats 800000 in
theorem unhex_c (s : ByteArray) (w : World) (hs : s.size ≤ 1000000000) :
    Calls Try.prog 17 #[.string s] w (BytesR (unhexM s.data.toList).1 (unhexM s.data.toList).2 w) := by
  obtain ⟨l, hl⟩ : ∃ l, l = s.data.toList := ⟨_, rfl⟩
  have hsz : l.length = s.size := by rw [hl]; rfl
  rw [← hl]
  by_cases hd : l = [45]
  · have hq : (s.toList == [45]) = true := by rw [beq_iff_eq, ByteArray.toList_eq, ← hl, hd]
    rw [show unhexM l = ([], 0) from if_pos hd]
    clear hd hl hsz
    go_enter Try.func17, Try.ntmps17
    go_wp2_with fail
    go_ret2
    exact ⟨_, rfl, Sees.nil _ _ _, fun k h => by simp [Value.ownBlock] at h, Only.refl _ _⟩
  have hq : (s.toList == [45]) = false := by rw [beq_eq_false_iff_ne, ByteArray.toList_eq, ← hl]; exact hd
  by_cases h0 : l.length = 0
  · have hq0 : (s.toList == []) = true := by rw [beq_iff_eq, ByteArray.toList_eq, ← hl]; exact List.length_eq_zero_iff.1 h0
    rw [show unhexM l = ([], 3) by unfold unhexM; rw [if_neg hd, if_pos (.inl h0)]]
    clear hd hl hsz h0
    go_enter Try.func17, Try.ntmps17
    go_wp2_with fail
    go_ret2
    exact ⟨_, rfl, Sees.nil _ _ _, fun k h => by simp [Value.ownBlock] at h, Only.refl _ _⟩
  have hq0 : (s.toList == []) = false := by rw [beq_eq_false_iff_ne, ByteArray.toList_eq, ← hl]; exact fun e => h0 (by rw [e]; rfl)
  by_cases h2 : l.length % 2 = 1
  · rw [show unhexM l = ([], 3) by unfold unhexM; rw [if_neg hd, if_pos (.inr h2)]]
    have k2 : (s.size : Int) % 2 = 1 := by rw [← hsz]; omega
    clear hd hl hsz h0 h2
    go_enter Try.func17, Try.ntmps17
    go_wp2_with fail
    all_goals go_ret2
    all_goals exact ⟨_, rfl, Sees.nil _ _ _, fun k h => by simp [Value.ownBlock] at h, Only.refl _ _⟩
  obtain ⟨m, hm⟩ : ∃ m, l.length = 2 * m := ⟨l.length / 2, by omega⟩
  have hE : unhexM l = if okH l = true then ((List.range m).map (fullB l), 0) else ([], 3) := by
    unfold unhexM
    rw [if_neg hd, if_neg (by omega), hm, Nat.mul_div_cancel_left m (by omega)]
  have k2 : (s.size : Int) % 2 = 0 := by rw [← hsz]; omega
  have k3 : (s.size : Int) / 2 = (m : Int) := by rw [← hsz]; omega
  have hmk := fun W : World => make_bytes m W (by omega)
  have HE := Lib.hid hE
  have HL := Lib.hid hl
  have HZ := Lib.hid (outL_zero l m)
  have HM := Lib.hid hm
  have HSZ := Lib.hid hsz
  clear hE hl hm hd h0 h2 hsz
  go_enter Try.func17, Try.ntmps17
  go_wp2_with fail
  go_loopg [23] (s.size : Nat) (fun g v23 wr => ∃ i : Nat, i + g = s.size ∧ v23 = .int .i64 i ∧ (l.take i).all (fun c => decide (0 ≤ hexD c)) = true ∧ Blk wr w.heap.size (bys (outL l m i)).toArray 5 ∧ Only No w wr)
  case atStart =>
    refine ⟨0, by omega, rfl, by simp, ?_, (Only.refl _ _).alloc _⟩
    rw [HZ.out]
    exact Blk.new _ _ _
  case round =>
    obtain ⟨i, hig, rfl, hok, hb, hO⟩ := hrel
    have hlt2 : i < s.size → (i : Int) / 2 < (m : Int) := by
      have := HSZ.out; have := HM.out
      omega
    clear k2
    by_cases hlt : i < s.size
    · obtain ⟨c, hc⟩ : ∃ c, l[i]? = some c := ⟨_, List.getElem?_eq_getElem (by rw [HSZ.out]; omega)⟩
      have hix := fun W : World => str_at s i c (by rw [← HL.out]; exact hc) W
      have HI := fun W : World => Lib.hid (indexHex_c c W)
      obtain ⟨d, hdd⟩ : ∃ d, d = hexD c := ⟨_, rfl⟩
      rw [← hdd] at HI
      by_cases hneg : d < 0
      · have HR := Lib.hid (okH_no hc (by rw [← hdd]; exact hneg))
        have HE2 := Lib.hid hdd
        clear hdd hc hok
        go_wp2_with fail
        refine (HI _).out.mono ?_
        rintro e w' ⟨rfl, rfl⟩
        go_wp2_with fail
        go_ret2
        rw [HE.out, HR.out]
        exact ⟨_, rfl, Sees.nil _ _ _, fun k h => by simp [Value.ownBlock] at h, hO⟩
      · have hd0 : 0 ≤ d := by omega
        have hd15 : d ≤ 15 := by rw [hdd]; exact hexD_le c
        obtain ⟨o, ho⟩ : ∃ o, o = outB l i (i / 2) := ⟨_, rfl⟩
        have hcell : wr.cell? ⟨w.heap.size, i / 2, none⟩ = some (.int .u8 (o.toNat : Int)) := hb.cell _ _ (by
          rw [List.getElem?_toArray]
          refine bys_get ?_
          rw [outL_get l m i _ (by have := HSZ.out; have := HM.out; omega), ho])
        have hfree := hb.free (i / 2)
        have hlt3 := hlt2 hlt
        clear hlt2
        have HD := Lib.hid hdd
        clear hdd
        go_wp2_with fail
        refine (HI _).out.mono ?_
        rintro e w' ⟨rfl, rfl⟩
        go_wp2_with fail
        go_roundg (s.size - (i + 1))
        case measure => omega
        case rel =>
          refine ⟨i + 1, by omega, by go_num, ?_, ?_, hO.setCell _ _ (fun hk => absurd hk (Nat.lt_irrefl _))⟩
          · rw [List.take_add_one, hc, List.all_append, hok]
            simp [← HD.out, hd0]
          · rw [← outL_step l m i (by have := HSZ.out; have := HM.out; omega) c hc, ← bys_set]
            have e : bits BinOp.or .u8 ((o.toNat : Int) * 16 % 256) d = ((outB l (i + 1) (i / 2)).toNat : Int) := by
              rw [ho, HD.out, out_or l i c hc (by rw [← HD.out]; exact hd0)]
            rw [← ho, e]
            exact hb.set (i / 2) _
    · have hi : i = l.length := by have := HSZ.out; omega
      have hR : okH l = true := by
        rw [hi, List.take_length] at hok
        exact hok
      rw [hi, HM.out, outL_full] at hb
      have HR := Lib.hid hR
      have HB := Lib.hid hb
      clear hR hb hok
      go_wp2_with fail
      go_ret2
      rw [HE.out, HR.out]
      refine ⟨_, rfl, ⟨⟨_, m, by simp [bys], by simp [bys], fun _ => ⟨_, 0, rfl, HB.out.lt, fun j u hu => HB.out.cell _ u (by simpa using hu)⟩⟩⟩, fun k h => ?_, hO⟩
      simp [Value.ownBlock] at h
      omega
set_option maxRecDepth 100000 in
set_option maxHeartbeats 800000 in
theorem runhex_c (s : ByteArray) (w : World) (hs : s.size ≤ 900000000) :
    Calls Try.prog 18 #[.string s] w (BytesR (unhexM s.data.toList).1 (unhexM s.data.toList).2 w) := by
  obtain ⟨l, hl⟩ : ∃ l, l = s.data.toList := ⟨_, rfl⟩
  have hsz : l.length = s.size := by rw [hl]; rfl
  rw [← hl]
  by_cases hd : l = [45]
  · have hq : (s.toList == [45]) = true := by rw [beq_iff_eq, ByteArray.toList_eq, ← hl, hd]
    rw [show unhexM l = ([], 0) from if_pos hd]
    clear hd hl hsz
    go_enter Try.func18, Try.ntmps18
    go_wp2_with fail
    go_ret2
    exact ⟨_, rfl, Sees.nil _ _ _, fun k h => by simp [Value.ownBlock] at h, Only.refl _ _⟩
  have hq : (s.toList == [45]) = false := by rw [beq_eq_false_iff_ne, ByteArray.toList_eq, ← hl]; exact hd
  by_cases h0 : l.length = 0
  · have hq0 : (s.toList == []) = true := by rw [beq_iff_eq, ByteArray.toList_eq, ← hl]; exact List.length_eq_zero_iff.1 h0
    rw [show unhexM l = ([], 3) by unfold unhexM; rw [if_neg hd, if_pos (.inl h0)]]
    clear hd hl hsz h0
    go_enter Try.func18, Try.ntmps18
    go_wp2_with fail
    go_ret2
    exact ⟨_, rfl, Sees.nil _ _ _, fun k h => by simp [Value.ownBlock] at h, Only.refl _ _⟩
  have hq0 : (s.toList == []) = false := by rw [beq_eq_false_iff_ne, ByteArray.toList_eq, ← hl]; exact fun e => h0 (by rw [e]; rfl)
  by_cases h2 : l.length % 2 = 1
  · rw [show unhexM l = ([], 3) by unfold unhexM; rw [if_neg hd, if_pos (.inr h2)]]
    have k2 : (s.size : Int) % 2 = 1 := by rw [← hsz]; omega
    clear hd hl hsz h0 h2
    go_enter Try.func18, Try.ntmps18
    go_wp2_with fail
    all_goals go_ret2
    all_goals exact ⟨_, rfl, Sees.nil _ _ _, fun k h => by simp [Value.ownBlock] at h, Only.refl _ _⟩
  obtain ⟨m, hm⟩ : ∃ m, l.length = 2 * m := ⟨l.length / 2, by omega⟩
  have hE : unhexM l = if okH l = true then ((List.range m).map (fullB l), 0) else ([], 3) := by
    unfold unhexM
    rw [if_neg hd, if_neg (by omega), hm, Nat.mul_div_cancel_left m (by omega)]
  have k2 : (s.size : Int) % 2 = 0 := by rw [← hsz]; omega
  have HE := Lib.hid hE
  have HL := Lib.hid hl
  have HM := Lib.hid hm
  have HSZ := Lib.hid hsz
  clear hE hl hm hd h0 h2 hsz
  go_enter Try.func18, Try.ntmps18
  go_wp2_with fail
  obtain ⟨i0, hinf, hz0, hz1, hz2⟩ := info_parts info_byte
  go_loopg [4, 5] (s.size : Nat) (fun g v4 v5 wr => ∃ k : Nat, 2 * k + g = s.size ∧ v5 = .int .i64 ((2 * k : Nat) : Int) ∧ (l.take (2 * k)).all (fun c => decide (0 ≤ hexD c)) = true ∧ Bun wr w.heap.size [(5, 1, v4, k, bys ((List.range k).map (fullB l)))] ∧ Only No w wr)
  case atStart => exact ⟨0, by omega, rfl, by simp, (Bun.nil _ _).cons_nil _ _, Only.refl _ _⟩
  case round =>
    obtain ⟨k, hig, rfl, hok, hB, hO⟩ := hrel
    clear k2
    obtain ⟨i, hi⟩ : ∃ i, i = 2 * k := ⟨_, rfl⟩
    rw [← hi] at hok hig ⊢
    obtain ⟨sa, sc, rfl⟩ := bun_form hB 0 rfl
    have hz : w.heap.size ≤ wr.heap.size := hO.size
    by_cases hlt : i < s.size
    · have hkm : k < m := by have := HSZ.out; have := HM.out; omega
      obtain ⟨c, hc⟩ : ∃ c, l[i]? = some c := ⟨_, List.getElem?_eq_getElem (by rw [HSZ.out]; omega)⟩
      obtain ⟨d, hd⟩ : ∃ d, l[i + 1]? = some d := ⟨_, List.getElem?_eq_getElem (by rw [HM.out, hi]; omega)⟩
      have hix := fun W : World => str_at s i c (by rw [← HL.out]; exact hc) W
      have hix2 := fun W : World => str_at s (i + 1) d (by rw [← HL.out]; exact hd) W
      rw [show ((i + 1 : Nat) : Int) = (i : Int) + 1 by omega] at hix2
      have HI := fun W : World => Lib.hid (rdigit_c c W)
      have HI2 := fun W : World => Lib.hid (rdigit_c d W)
      obtain ⟨n, hn⟩ : ∃ n, n = hexD c := ⟨_, rfl⟩
      obtain ⟨n2, hn2⟩ : ∃ n2, n2 = hexD d := ⟨_, rfl⟩
      rw [← hn] at HI
      rw [← hn2] at HI2
      have HN := Lib.hid hn
      have HN2 := Lib.hid hn2
      have HC := Lib.hid hc
      have HD := Lib.hid hd
      have HOK := Lib.hid hok
      have hlt1 : i + 1 < s.size := by have := HSZ.out; have := HM.out; omega
      have hlt2 : (i : Int) + 1 < (s.size : Int) := by omega
      have hlt3 : (0 : Int) ≤ (i : Int) + 1 := by omega
      have hwr : IntKind.i64.wrap ((i : Int) + 1) = (i : Int) + 1 := IntWalk.i64_in _ (by omega)
      have HI2K := Lib.hid hi
      clear hn hn2 hc hd hok hi
      by_cases hneg : n < 0 ∨ n2 < 0
      · have hno : okH l = false := by
          rcases hneg with h | h
          · exact okH_no HC.out (by rw [← HN.out]; exact h)
          · exact okH_no HD.out (by rw [← HN2.out]; exact h)
        have HNO := Lib.hid hno
        clear hno
        go_wp2_with fail
        go_region_held3 (fun w' => Only No wr w') (first | exact (Only.refl _ _).drew | exact Only.refl _ _ | exact (Only.refl _ _).drewN _ | assumption) (first
          | (go_at_call 44; ((with_reducible first | refine (HI _).out.mono ?_ | refine (HI2 _).out.mono ?_); rintro e w' ⟨rfl, rfl⟩))
          | fail)
        go_wp2_with fail
        all_goals try (exfalso; omega)
        all_goals go_ret2
        all_goals rw [HE.out, HNO.out]
        all_goals exact ⟨_, rfl, Sees.nil _ _ _, fun k h => by simp [Value.ownBlock] at h, hO.drew⟩
      · have hp1 : 0 ≤ n := by omega
        have hp2 : 0 ≤ n2 := by omega
        have k1 : ¬ n < 0 := by omega
        have k2 : ¬ n2 < 0 := by omega
        have q1 : decide (n < 0) = false := decide_eq_false k1
        have q2 : decide (n2 < 0) = false := decide_eq_false k2
        have hB1 : Bun wr.drew w.heap.size [(5, 1, .slice sa k sc, k, bys ((List.range k).map (fullB l)))] := by exact hB.drewN 1
        have hO1 : Only No w wr.drew := hO.drew
        have hz1' : w.heap.size ≤ wr.drew.heap.size := hO1.size
        have hN : IntKind.u8.wrap (16 * n + n2) = ((fullB l k).toNat : Int) := by
          have e1 : l.getD (2 * k) 0 = c := by rw [← HI2K.out, List.getD_eq_getElem?_getD, HC.out]; rfl
          have e2 : l.getD (2 * k + 1) 0 = d := by rw [← HI2K.out, List.getD_eq_getElem?_getD, HD.out]; rfl
          have := hexD_le c; have := hexD_le d
          have g1 := HN.out; have g2 := HN2.out
          unfold fullB
          rw [e1, e2, UInt8.toNat_ofNat', Nat.mod_eq_of_lt (by have := hx_lt c; have := hx_lt d; omega), IntWalk.u8_in _ (by omega)]
          unfold hx
          omega
        have hb1 : n ≤ 15 := by rw [HN.out]; exact hexD_le c
        have hb2 : n2 ≤ 15 := by rw [HN2.out]; exact hexD_le d
        have hw16 : IntKind.i64.wrap (16 * n) = 16 * n := IntWalk.i64_in _ (by omega)
        have hws : IntKind.i64.wrap (16 * n + n2) = 16 * n + n2 := IntWalk.i64_in _ (by omega)
        have hkb : k ≤ 900000000 := by have := HI2K.out; omega
        clear hneg
        go_wp2_with fail
        go_region_held3 (fun w' => Only No wr w') (first | exact (Only.refl _ _).drew | exact Only.refl _ _ | exact (Only.refl _ _).drewN _ | assumption) (first
          | (go_at_call 44; ((with_reducible first | refine (HI _).out.mono ?_ | refine (HI2 _).out.mono ?_); rintro e w' ⟨rfl, rfl⟩))
          | fail)
        generalize hW5 : wr.drew = w5 at *
        go_wp2_with (at_builtin; refine wpList_append1 rfl (.tmp 39) (.tmp 45) 52 rfl w.heap.size 5 i0 (.int .u8 0) 1 1 Try.underlying52 hinf hz0 hz1 hz2 rfl (by decide) _ hB1 0 _ _ _ rfl rfl [.int .u8 ((fullB l k).toNat : Int)] _ _ rfl rfl rfl (by simp [Value.oneCell']) (by unfold maxLen; omega) (by omega) hz1' ?_; intro g6 c6' w6 hB6 hO6)
        all_goals
          go_roundg (s.size - (i + 2))
          case measure => omega
          case rel =>
            have h2k := HI2K.out
            refine ⟨k + 1, by omega, by rw [h2k]; exact congrArg (Value.int .i64) (by omega), ?_, ?_, hO1.then hO6 (fun _ hk hq => absurd hk (Nat.not_lt.2 hq))⟩
            · rw [show 2 * (k + 1) = i + 1 + 1 by omega, List.take_add_one, List.take_add_one, HC.out, HD.out, List.all_append, List.all_append, HOK.out]
              simp [← HN.out, ← HN2.out, hp1, hp2]
            · have e : bys ((List.range (k + 1)).map (fullB l)) = bys ((List.range k).map (fullB l)) ++ [.int .u8 ((fullB l k).toNat : Int)] := by
                rw [List.range_succ]; simp [bys]
              rw [e]
              exact hB6
    · have hik : i = l.length := by have := HSZ.out; have := HM.out; omega
      have hkm : k = m := by have := HM.out; omega
      have hR : okH l = true := by
        rw [hik, List.take_length] at hok
        exact hok
      have hrow : wr.ownsRow w.heap.size 5 1 (.slice sa k sc) k (bys ((List.range k).map (fullB l))) := hB.owns 0 _ rfl
      rw [hkm] at hrow
      have HR := Lib.hid hR
      have HB := Lib.hid hrow
      have HK := Lib.hid hkm
      clear hR hB hok hrow hkm hik hi
      go_wp2_with fail
      go_ret2
      rw [HE.out, HR.out]
      have e : (Value.slice sa k sc) = .slice sa m sc := by rw [HK.out]
      rw [e]
      exact ⟨_, rfl, Sees.of_row HB.out, fun k h => (HB.out.lt k h).1, hO⟩
end Go.Proofs.Ytlilhdkaaendlaa
