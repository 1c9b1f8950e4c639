/- Names: Text, Right, Of, Some and the document's. No statement is proved here. -/
import Derived.Test.YtlilhdkaaendlaaName
import Derived.Laws.CopyRow
import Derived.Deep.WholeRow
import Derived.Laws.ResultCell
import Derived.Laws.Rows
namespace Go.Proofs.Ytlilhdkaaendlaa
open Go.RowKit

theorem slice8h (b k : Nat) (W : World) (h : k ≤ 8) : (Instr.sliceAt 49 (.pointer (some ⟨b, 0, none⟩)) none (some (.int .i64 (k : Int))) none).run Try.prog W = .ok (.slice (some ⟨b, 0, none⟩) k 8) W := by
  have hl : Try.prog.arrayLen 49 = 8 := by kernel_rfl
  have he : Try.prog.elem 49 = 5 := by kernel_rfl
  have hs : ∀ W : World, (sizeOf 5).run Try.prog W = .ok 1 W := fun _ => by kernel_rfl
  rw [run_sliceAt_array_h W _ _ (by rw [Try.underlying49, hl, he]) .i64 k (by omega) (by rw [hl]; omega), he, hs, hl]
  simp only [Result.andThen_ok, slicedAt, Int.toNat_natCast]
  rw [if_neg (by omega), add_none rfl]
  simp
theorem slice8l (b k : Nat) (W : World) (h : k ≤ 8) : ∃ o, (Instr.sliceAt 49 (.pointer (some ⟨b, 0, none⟩)) (some (.int .i64 (k : Int))) none none).run Try.prog W = .ok (.slice (some ⟨b, o, none⟩) (8 - k) (8 - k)) W ∧ (k < 8 → o = k) := by
  have hl : Try.prog.arrayLen 49 = 8 := by kernel_rfl
  have he : Try.prog.elem 49 = 5 := by kernel_rfl
  have hs : ∀ W : World, (sizeOf 5).run Try.prog W = .ok 1 W := fun _ => by kernel_rfl
  rw [run_sliceAt_array_l W _ _ (by rw [Try.underlying49, hl, he]) .i64 k (by omega) (by rw [hl]; omega), he, hs, hl]
  simp only [Result.andThen_ok, slicedAt, Int.toNat_natCast]
  by_cases h8 : 8 = k
  · rw [if_pos h8]
    exact ⟨0, rfl, fun h => by omega⟩
  · rw [if_neg h8, add_none rfl]
    exact ⟨k, by simp, fun _ => rfl⟩
theorem slice8a (b : Nat) (W : World) : (Instr.sliceAt 49 (.pointer (some ⟨b, 0, none⟩)) none none none).run Try.prog W = .ok (.slice (some ⟨b, 0, none⟩) 8 8) W := by
  have hl : Try.prog.arrayLen 49 = 8 := by kernel_rfl
  have he : Try.prog.elem 49 = 5 := by kernel_rfl
  have hs : ∀ W : World, (sizeOf 5).run Try.prog W = .ok 1 W := fun _ => by kernel_rfl
  rw [run_sliceAt_array_all W _ _ (by rw [Try.underlying49, hl, he]), he, hs, hl]
  simp only [Result.andThen_ok, slicedAt]
  rw [if_neg (by omega), add_none rfl]
/-- The eight bytes as a text, some first ones. -/
theorem conv8 (n : List UInt8) (b k : Nat) (W : World) (hb : Blk W b (bys n).toArray 49) (hk : k ≤ n.length) (cap : Nat) :
    (convert 52 9 (.slice (some ⟨b, 0, none⟩) k cap)).run Try.prog W = .ok (.string ⟨(n.take k).toArray⟩) W := by
  have := run_convert_bytes_arg (P := Try.prog) W 52 5 Try.underlying52 Try.underlying5 b 0 k cap
    ((n.take k).map fun c => (c.toNat : Int)) (by simp; omega) (fun i hi => ?_) 9 Try.underlying9
  · rw [this, strOfNums_bytes]
  · refine hb.cell _ _ ?_
    obtain ⟨c, hc⟩ : ∃ c, n[i]? = some c := ⟨_, List.getElem?_eq_getElem (by omega)⟩
    rw [Nat.zero_add]
    simp [List.getD_eq_getElem?_getD, List.getElem?_map, hi, hc, bys]

set_option maxRecDepth 100000 in
theorem text_c (n : List UInt8) (hn : n.length = 8) (w : World) :
    Calls Try.prog 97 #[nmV n] w fun e w' => e = .returned (.string ⟨(ntxt n).toArray⟩) ∧ Only No w w' := by
  obtain ⟨a, b, c, d, e, f, g, h, hh⟩ := eight hn
  have hE : nmV n = .agg #[.int .u8 (a.toNat : Int), .int .u8 (b.toNat : Int), .int .u8 (c.toNat : Int), .int .u8 (d.toNat : Int), .int .u8 (e.toNat : Int), .int .u8 (f.toNat : Int), .int .u8 (g.toNat : Int), .int .u8 (h.toNat : Int)] := by rw [hh]; rfl
  have hA : (bys n).toArray = #[.int .u8 (a.toNat : Int), .int .u8 (b.toNat : Int), .int .u8 (c.toNat : Int), .int .u8 (d.toNat : Int), .int .u8 (e.toNat : Int), .int .u8 (f.toNat : Int), .int .u8 (g.toNat : Int), .int .u8 (h.toNat : Int)] := by rw [hh]; rfl
  have HS := fun W : World => Lib.hid (size_c n hn W)
  rw [hE] at HS
  rw [hE]
  have HA := Lib.hid hA
  obtain ⟨t, ht⟩ : ∃ t : ByteArray, t = ⟨(ntxt n).toArray⟩ := ⟨_, rfl⟩
  rw [← ht]
  have HT := Lib.hid ht
  clear hE hA hh ht
  have hk : nsz n ≤ 8 := hn ▸ nsz_len n
  have hsl := fun (B : Nat) (W : World) => slice8h B (nsz n) W hk
  go_enter Try.func97, Try.ntmps97
  go_wp2_with fail
  refine (HS _).out.mono ?_
  rintro e' w' ⟨rfl, hO⟩
  have hb : Blk w' w.heap.size (bys n).toArray 49 := hO.blk (by rw [HA.out]; exact Blk.new _ _ _) (fun h => h)
  have hcv := conv8 n w.heap.size (nsz n) w' hb (by omega) 8
  rw [← ntxt_take] at hcv
  rw [← HT.out] at hcv
  clear HA hb
  go_wp2_with fail
  go_ret
  exact ⟨rfl, ((Only.refl _ _).alloc _).trans hO⟩
def rightN (n : List UInt8) : Bool := letB (n.headD 0) && (n.take (nsz n)).all othB && (n.drop (nsz n)).all zerB
set_option maxRecDepth 100000 in
theorem right_c (n : List UInt8) (hn : n.length = 8) (w : World) :
    Calls Try.prog 109 #[nmV n] w fun e w' => e = .returned (.bool (rightN n)) ∧ Only No w w' := by
  obtain ⟨a, b, c, d, e, f, g, h, hh⟩ := eight hn
  have hE : nmV n = .agg #[.int .u8 (a.toNat : Int), .int .u8 (b.toNat : Int), .int .u8 (c.toNat : Int), .int .u8 (d.toNat : Int), .int .u8 (e.toNat : Int), .int .u8 (f.toNat : Int), .int .u8 (g.toNat : Int), .int .u8 (h.toNat : Int)] := by rw [hh]; rfl
  have hA : (bys n).toArray = #[.int .u8 (a.toNat : Int), .int .u8 (b.toNat : Int), .int .u8 (c.toNat : Int), .int .u8 (d.toNat : Int), .int .u8 (e.toNat : Int), .int .u8 (f.toNat : Int), .int .u8 (g.toNat : Int), .int .u8 (h.toNat : Int)] := by rw [hh]; rfl
  have h0 : n.headD 0 = a := by rw [hh]; rfl
  have HS := fun W : World => Lib.hid (size_c n hn W)
  have HL := fun W : World => Lib.hid (letter_c a W)
  rw [hE] at HS
  rw [hE]
  have HA := Lib.hid hA
  have H0 := Lib.hid h0
  clear hE hA hh h0
  have hk : nsz n ≤ 8 := hn ▸ nsz_len n
  have hsl := fun (B : Nat) (W : World) => slice8h B (nsz n) W hk
  go_enter Try.func109, Try.ntmps109
  go_wp2_with fail
  refine (HS _).out.mono ?_
  rintro e' w' ⟨rfl, hO⟩
  have hb : Blk w' w.heap.size (bys n).toArray 49 := hO.blk (by rw [HA.out]; exact Blk.new _ _ _) (fun h => h)
  have hO2 : Only No w w' := ((Only.refl _ _).alloc _).trans hO
  have hc0 : w'.cell? ⟨w.heap.size, 0, none⟩ = some (.int .u8 (a.toNat : Int)) := hb.cell 0 _ (by rw [HA.out]; rfl)
  have hall1 := all_c w.heap.size 0 8 (n.take (nsz n)) _ othB says_other w' (by simp; omega) (fun i c hc => hb.cell _ _ (by
    rw [List.getElem?_take] at hc
    split at hc
    · rw [Nat.zero_add]; simpa using bys_get hc
    · simp at hc))
  obtain ⟨o, hsl2, ho⟩ := slice8l w.heap.size (nsz n) w' hk
  have hall2 := all_c w.heap.size o (8 - nsz n) (n.drop (nsz n)) _ zerB says_zero w' (by simp; omega) (fun i c hc => by
    have hlt := (List.getElem?_eq_some_iff.1 hc).1
    rw [List.length_drop, hn] at hlt
    rw [ho (by omega)]
    rw [List.getElem?_drop] at hc
    exact hb.cell _ _ (by simpa using bys_get hc))
  rw [List.length_drop, hn] at hall2
  rw [List.length_take, hn, Nat.min_eq_left hk] at hall1
  have HA1 := Lib.hid hall1
  have HA2 := Lib.hid hall2
  clear hall1 hall2 ho hb
  cases h1 : letB a with
  | false =>
    have hR : rightN n = false := by unfold rightN; rw [H0.out, h1]; rfl
    have HR := Lib.hid hR
    rw [h1] at HL
    clear hR h1 HA
    go_wp2_with fail
    refine (HL _).out.mono ?_
    rintro e' w' ⟨rfl, rfl⟩
    go_wp2_with fail
    go_ret
    exact ⟨ret_eq (by rw [HR.out]; rfl), hO2⟩
  | true =>
    have hR : rightN n = ((n.take (nsz n)).all othB && (n.drop (nsz n)).all zerB) := by unfold rightN; rw [H0.out, h1, Bool.true_and]
    have HR := Lib.hid hR
    rw [h1] at HL
    clear hR h1 HA
    go_wp2_with fail
    refine (HL _).out.mono ?_
    rintro e' w' ⟨rfl, rfl⟩
    cases h2 : (n.take (nsz n)).all othB with
    | false =>
      rw [h2] at HA1 HR
      clear h2
      have HR' := Lib.hid HR.out
      clear HR
      go_wp2_with fail
      refine HA1.out.mono ?_
      rintro e' w' ⟨rfl, rfl⟩
      go_wp2_with fail
      go_ret
      exact ⟨ret_eq (by rw [HR'.out]; rfl), hO2⟩
    | true =>
      rw [h2] at HA1 HR
      clear h2
      have HR' := Lib.hid HR.out
      clear HR
      go_wp2_with fail
      refine HA1.out.mono ?_
      rintro e' w' ⟨rfl, rfl⟩
      go_wp2_with fail
      refine HA2.out.mono ?_
      rintro e' w' ⟨rfl, rfl⟩
      go_wp2_with fail
      go_ret
      exact ⟨ret_eq (by rw [HR'.out]; rfl), hO2⟩
/-- A text that is a name; with zeros behind. -/
def isN (s : List UInt8) : Bool := decide (1 ≤ s.length) && decide (s.length ≤ 8) && letB (s.headD 0) && s.all othB
def padN (s : List UInt8) : List UInt8 := s ++ List.replicate (8 - s.length) 0
def zeroN : List UInt8 := [0, 0, 0, 0, 0, 0, 0, 0]
def ofN (s : List UInt8) : List UInt8 × Int := if isN s = true then (padN s, 0) else (zeroN, 3)
theorem padN_len {s : List UInt8} (h : s.length ≤ 8) : (padN s).length = 8 := by unfold padN; simp; omega
theorem ofN_len (s : List UInt8) : (ofN s).1.length = 8 := by
  unfold ofN
  split
  · rename_i h
    simp [isN] at h
    exact padN_len (by omega)
  · rfl
theorem zer_oth {c : UInt8} (h : zerB c = true) : othB c = false := by
  simp only [zerB, decide_eq_true_eq] at h
  simp [othB, letB, h]
theorem let_oth {c : UInt8} (h : letB c = true) : othB c = true := by simp [othB, h]
theorem ntxt_pad {s : List UInt8} (h : s.all (fun c => !zerB c) = true) : ntxt (padN s) = s := by
  unfold ntxt padN
  rw [List.takeWhile_append_of_pos (by simpa using h)]
  cases hk : 8 - s.length with
  | zero => simp
  | succ k => simp [List.replicate_succ, zerB]
/-- What name.Of says, of what it tests. -/
theorem of_tests (s : List UInt8) (h1 : 1 ≤ s.length) (h8 : s.length ≤ 8) : isN s = (decide (ntxt (padN s) = s) && rightN (padN s)) := by
  by_cases hz : s.all (fun c => !zerB c) = true
  · have ht := ntxt_pad hz
    have hn : nsz (padN s) = s.length := by
      have : (ntxt (padN s)).length = s.length := by rw [ht]
      exact this
    have e1 : (padN s).take s.length = s := by unfold padN; simp
    have e2 : ((padN s).drop s.length).all zerB = true := by unfold padN; simp [zerB]
    have e3 : (padN s).headD 0 = s.headD 0 := by
      match s, h1 with
      | a :: r, _ => rfl
    unfold isN rightN
    rw [ht, hn, e1, e2, e3]
    simp [h1, h8]
  · obtain ⟨c, hc, hzc⟩ : ∃ c ∈ s, zerB c = true := by simpa using hz
    have e1 : s.all othB = false := by
      rw [List.all_eq_false]
      exact ⟨c, hc, by simp [zer_oth hzc]⟩
    have e2 : ntxt (padN s) ≠ s := by
      intro hE
      have : ∀ x ∈ ntxt (padN s), zerB x = false := fun x hx => by
        have := List.all_eq_true.1 (List.all_takeWhile (p := fun c => !zerB c) (l := padN s)) x hx
        simpa using this
      rw [hE] at this
      rw [this c hc] at hzc
      exact absurd hzc (by simp)
    unfold isN
    rw [e1]
    simp [e2]

theorem copy8 (s : ByteArray) (h8 : s.size ≤ 8) (W : World) :
    (Builtin.copy_ #[52, 9] 3 #[.slice (some ⟨W.heap.size, 0, none⟩) 8 8, .string s]).run Try.prog (W.alloc (.cells (bys zeroN).toArray 49)) =
      .ok (.int .i64 (s.size : Int)) (W.alloc (.cells (bys (padN s.data.toList)).toArray 49)) := by
  have hsz : s.data.toList.length = s.size := rfl
  have hst := run_storeCells_at Try.prog W.heap.size 0 49 (bys s.data.toList) 0 (bys zeroN).toArray (W.alloc (.cells (bys zeroN).toArray 49)) (Blk.new _ _ _) (by simp [bys, zeroN, hsz]; omega) (fun v hv => by
    simp only [bys, List.mem_map] at hv
    obtain ⟨c, -, rfl⟩ := hv
    rfl)
  have hi : ∀ W : World, (sizeOf 5).run Try.prog W = .ok 1 W := fun _ => by kernel_rfl
  have hm : min s.size 8 = s.size := by omega
  have hf : (s.extract 0 s.size).data.map (fun b => Value.int .u8 (b.toNat : Int)) = (bys s.data.toList).toArray := by
    rw [ByteArray.extract_zero_size]
    apply Array.ext'
    simp [bys]
  have hpad : ((bys zeroN).toArray.toList.take (0 + 0) ++ bys s.data.toList ++ (bys zeroN).toArray.toList.drop (0 + 0 + (bys s.data.toList).length)) = bys (padN s.data.toList) := by
    have : (bys s.data.toList).length = s.data.toList.length := by simp [bys]
    rw [this]
    unfold padN
    rw [show bys (s.data.toList ++ List.replicate (8 - s.data.toList.length) 0) = bys s.data.toList ++ bys (List.replicate (8 - s.data.toList.length) 0) by simp [bys]]
    generalize s.data.toList.length = k at *
    simp only [Nat.zero_add, List.take_zero, List.nil_append]
    congr 1
    have hk : k ≤ 8 := by omega
    match k, hk with
    | 0, _ | 1, _ | 2, _ | 3, _ | 4, _ | 5, _ | 6, _ | 7, _ | 8, _ => rfl
  rw [hpad, World.setRow_alloc_new] at hst
  have hl : List.take s.size (List.map (fun b => Value.int .u8 (b.toNat : Int)) s.data.toList) = bys s.data.toList := List.take_of_length_le (by simp [hsz])
  simp [Builtin.copy_, run_underlying Try.underlying52, Builtin.lenOf, Builtin.firstCells, hi, hm, goInt]
  rw [hl, hst]
  rfl
theorem results_row_tmp {P : Program} {fn : Func} {p u : Tmp} {ty : TypeId} (h : fn.results = #[.cell p ty, .tmp u]) (tmps : Array Value) (w : World) (g : Nat) (t : TypeId) (cs : Array Value) (fr : Nat × Nat) (d : TypeDesc)
    (hp : tmps.getD p undef = .pointer (some ⟨g, 0, none⟩)) (hg : w.heap[g]? = some (.cells cs t fr))
    (hu : P.underlying ty = some d) (hd : (match d with | .struct _ | .array _ _ => true | _ => false) = true) (hi : (P.info? ty).map (·.size) = some cs.size) :
    (results fn tmps).run P w = .ok (.tuple #[.agg cs, tmps.getD u undef]) w := by
  rw [results_cell_tmp h, hp]
  simp [asAddr, run_loadVar_row w g t ty cs fr d hg hu hd hi]
theorem blk_setRow {w : World} {g : Nat} {old : Array Value} {t : TypeId} (h : Blk w g old t) (cs : Array Value) : Blk (w.setRow g cs) g cs t := setRow_heap w g old cs t (0, 0) h
theorem only_setRow {S : Nat → Prop} {a w : World} (h : Only S a w) (g : Nat) (cs : Array Value) (hg : g < a.heap.size → S g) : Only S a (w.setRow g cs) :=
  h.then (T := (· = g)) ⟨rfl, rfl, rfl, by simp, fun k _ hk => setRow_other w g k _ hk⟩ (fun i hi e => by have e' : i = g := e; subst e'; exact hg hi)
abbrev zero8 : Array Value := #[.int .u8 0, .int .u8 0, .int .u8 0, .int .u8 0, .int .u8 0, .int .u8 0, .int .u8 0, .int .u8 0]
theorem one8 (x0 x1 x2 x3 x4 x5 x6 x7 : Int) : (#[.int .u8 x0, .int .u8 x1, .int .u8 x2, .int .u8 x3, .int .u8 x4, .int .u8 x5, .int .u8 x6, .int .u8 x7] : Array Value).all (·.oneCell') = true := by simp [Value.oneCell']
theorem info_name : (Try.prog.info? 49).map (·.size) = some 8 := by kernel_rfl
set_option maxRecDepth 100000 in
set_option maxHeartbeats 3200000 in
theorem of_c (s : ByteArray) (w : World) (hs : s.size ≤ 1000000000) :
    Calls Try.prog 104 #[.string s] w fun e w' => e = .returned (.tuple #[nmV (ofN s.data.toList).1, .int .i64 (ofN s.data.toList).2]) ∧ Only No w w' := by
  obtain ⟨l, hl⟩ : ∃ l, l = s.data.toList := ⟨_, rfl⟩
  have hsz : l.length = s.size := by rw [hl]; rfl
  rw [← hl]
  by_cases h8 : 8 < s.size
  · have hR : ofN l = (zeroN, 3) := by unfold ofN isN; rw [if_neg]; simp [show ¬ l.length ≤ 8 by omega]
    rw [hR]
    clear hR hl hsz
    go_enter Try.func104, Try.ntmps104
    go_wp2_with fail
    refine bodyPost_ret (results_row_tmp rfl _ _ w.heap.size _ _ _ _ rfl (Blk.new w _ _) Try.underlying49 rfl info_name) rfl ?_
    exact ⟨rfl, (Only.refl _ _).alloc _⟩
  · have hcp := copy8 s (by omega) w
    have hz8 : (bys zeroN).toArray = #[.int .u8 0, .int .u8 0, .int .u8 0, .int .u8 0, .int .u8 0, .int .u8 0, .int .u8 0, .int .u8 0] := rfl
    rw [← hl, hz8] at hcp
    clear hz8
    by_cases h0 : s.size = 0
    · have hl0 : l = [] := List.eq_nil_of_length_eq_zero (by omega)
      have hR : ofN l = (zeroN, 3) := by rw [hl0]; rfl
      rw [hR]
      have hP : (bys (padN l)).toArray = #[.int .u8 0, .int .u8 0, .int .u8 0, .int .u8 0, .int .u8 0, .int .u8 0, .int .u8 0, .int .u8 0] := by rw [hl0]; rfl
      rw [hP, h0] at hcp
      clear hR hl hsz hl0 hP
      go_enter Try.func104, Try.ntmps104
      have hsl := fun (B : Nat) (W : World) => slice8a B W
      go_wp2_with fail
      refine bodyPost_ret (results_row_tmp rfl _ _ w.heap.size _ _ _ _ rfl (Blk.new w _ _) Try.underlying49 rfl info_name) rfl ?_
      exact ⟨rfl, (Only.refl _ _).alloc _⟩
    · have hpl : (padN l).length = 8 := padN_len (by omega)
      have hot := of_tests l (by omega) (by omega)
      obtain ⟨a, b, c, d, e, f, g, x, hh⟩ := eight hpl
      have hE : nmV (padN l) = .agg #[.int .u8 (a.toNat : Int), .int .u8 (b.toNat : Int), .int .u8 (c.toNat : Int), .int .u8 (d.toNat : Int), .int .u8 (e.toNat : Int), .int .u8 (f.toNat : Int), .int .u8 (g.toNat : Int), .int .u8 (x.toNat : Int)] := by rw [hh]; rfl
      have hA : (bys (padN l)).toArray = #[.int .u8 (a.toNat : Int), .int .u8 (b.toNat : Int), .int .u8 (c.toNat : Int), .int .u8 (d.toNat : Int), .int .u8 (e.toNat : Int), .int .u8 (f.toNat : Int), .int .u8 (g.toNat : Int), .int .u8 (x.toNat : Int)] := by rw [hh]; rfl
      have HTx := fun W : World => Lib.hid (text_c (padN l) hpl W)
      have HRt := fun W : World => Lib.hid (right_c (padN l) hpl W)
      rw [hE] at HTx HRt
      rw [hA] at hcp
      obtain ⟨tx, htx⟩ : ∃ t : ByteArray, t = ⟨(ntxt (padN l)).toArray⟩ := ⟨_, rfl⟩
      have heq : (tx = s) ↔ ntxt (padN l) = l := by
        rw [htx]
        constructor
        · intro h
          have h2 := congrArg (fun x : ByteArray => x.data.toList) h
          simp at h2
          rw [h2, hl]
        · intro h; rw [h, hl]
      rw [← htx] at HTx
      obtain ⟨rv, hrv⟩ : ∃ rv, rv = rightN (padN l) := ⟨_, rfl⟩
      rw [← hrv] at HRt hot
      obtain ⟨R, hR⟩ : ∃ R, R = (.tuple #[nmV (ofN l).1, .int .i64 (ofN l).2] : Value) := ⟨_, rfl⟩
      rw [← hR]
      by_cases hq : tx = s
      · have hn : isN l = rv := by rw [hot, decide_eq_true (heq.1 hq), Bool.true_and]
        have hR' : R = if rv = true then .tuple #[.agg #[.int .u8 (a.toNat : Int), .int .u8 (b.toNat : Int), .int .u8 (c.toNat : Int), .int .u8 (d.toNat : Int), .int .u8 (e.toNat : Int), .int .u8 (f.toNat : Int), .int .u8 (g.toNat : Int), .int .u8 (x.toNat : Int)], .int .i64 0] else .tuple #[.agg #[.int .u8 0, .int .u8 0, .int .u8 0, .int .u8 0, .int .u8 0, .int .u8 0, .int .u8 0, .int .u8 0], .int .i64 3] := by
          rw [hR, ← hE]
          unfold ofN
          rw [hn]
          split <;> rfl
        have HR := Lib.hid hR'
        rw [hq] at HTx
        clear hR' hR hn hot hE hh heq htx hl hrv hq tx
        go_enter Try.func104, Try.ntmps104
        have hsl := fun (B : Nat) (W : World) => slice8a B W
        go_wp2_with fail
        refine (HTx _).out.mono ?_
        rintro e' w' ⟨rfl, hO⟩
        have hb : Blk w' w.heap.size _ 49 := hO.blk (Blk.new _ _ _) (fun h => h)
        have g0 := hb.cell 0 _ rfl; have g1 := hb.cell 1 _ rfl; have g2 := hb.cell 2 _ rfl; have g3 := hb.cell 3 _ rfl; have g4 := hb.cell 4 _ rfl; have g5 := hb.cell 5 _ rfl; have g6 := hb.cell 6 _ rfl; have g7 := hb.cell 7 _ rfl
        have hO1 : Only No w w' := ((Only.refl _ _).alloc _).trans hO
        go_wp2_with fail
        refine (HRt _).out.mono ?_
        rintro e' w2 ⟨rfl, hO2⟩
        have hb2 := hO2.blk hb (fun h => h)
        clear g0 g1 g2 g3 g4 g5 g6 g7
        have hO12 := hO1.trans hO2
        cases rv with
        | false =>
          go_wp2_with (refine wpList_store_row rfl 49 (.tmp 2) (.tmp 24) rfl w.heap.size zero8 rfl rfl _ _ hb2 info_name rfl (one8 _ _ _ _ _ _ _ _) ?_)
          refine bodyPost_ret (results_row_tmp rfl _ _ w.heap.size _ _ _ _ rfl (blk_setRow hb2 zero8) Try.underlying49 rfl info_name) rfl ?_
          exact ⟨ret_eq (by rw [HR.out]; rfl), only_setRow hO12 _ _ (fun hk => absurd hk (Nat.lt_irrefl _))⟩
        | true =>
          go_wp2_with (first
            | (refine wpList_load_row rfl 49 (.tmp 2) rfl w.heap.size rfl _ #[.int .u8 (a.toNat : Int), .int .u8 (b.toNat : Int), .int .u8 (c.toNat : Int), .int .u8 (d.toNat : Int), .int .u8 (e.toNat : Int), .int .u8 (f.toNat : Int), .int .u8 (g.toNat : Int), .int .u8 (x.toNat : Int)] (0, 0) _ hb2 Try.underlying49 rfl info_name ?_)
            | (refine wpList_store_row rfl 49 (.tmp 2) (.tmp 25) rfl w.heap.size #[.int .u8 (a.toNat : Int), .int .u8 (b.toNat : Int), .int .u8 (c.toNat : Int), .int .u8 (d.toNat : Int), .int .u8 (e.toNat : Int), .int .u8 (f.toNat : Int), .int .u8 (g.toNat : Int), .int .u8 (x.toNat : Int)] rfl rfl _ _ hb2 info_name rfl (one8 _ _ _ _ _ _ _ _) ?_))
          all_goals try (exfalso; simp only [beq_iff_eq] at *; omega)
          refine bodyPost_ret (results_row_tmp rfl _ _ w.heap.size _ _ _ _ rfl (blk_setRow hb2 #[.int .u8 (a.toNat : Int), .int .u8 (b.toNat : Int), .int .u8 (c.toNat : Int), .int .u8 (d.toNat : Int), .int .u8 (e.toNat : Int), .int .u8 (f.toNat : Int), .int .u8 (g.toNat : Int), .int .u8 (x.toNat : Int)]) Try.underlying49 rfl info_name) rfl ?_
          exact ⟨ret_eq (by rw [HR.out]; rfl), only_setRow hO12 _ _ (fun hk => absurd hk (Nat.lt_irrefl _))⟩
      · have hR' : R = .tuple #[.agg #[.int .u8 0, .int .u8 0, .int .u8 0, .int .u8 0, .int .u8 0, .int .u8 0, .int .u8 0, .int .u8 0], .int .i64 3] := by
          rw [hR]
          unfold ofN
          rw [hot, decide_eq_false (fun h => hq (heq.2 h))]
          rfl
        have HR := Lib.hid hR'
        clear hR' hR hot hE hh heq htx hl hrv HRt
        have hq4 : (tx.toList == s.toList) = false := by
          rw [beq_eq_false_iff_ne, ByteArray.toList_eq, ByteArray.toList_eq]
          exact fun h => hq (by apply ByteArray.ext; apply Array.ext'; exact h)
        go_enter Try.func104, Try.ntmps104
        have hsl := fun (B : Nat) (W : World) => slice8a B W
        go_wp2_with fail
        refine (HTx _).out.mono ?_
        rintro e' w' ⟨rfl, hO⟩
        have hb2 : Blk w' w.heap.size _ 49 := hO.blk (Blk.new _ _ _) (fun h => h)
        have hO12 : Only No w w' := ((Only.refl _ _).alloc _).trans hO
        go_wp2_with (refine wpList_store_row rfl 49 (.tmp 2) (.tmp 24) rfl w.heap.size zero8 rfl rfl _ _ hb2 info_name rfl (one8 _ _ _ _ _ _ _ _) ?_)
        refine bodyPost_ret (results_row_tmp rfl _ _ w.heap.size _ _ _ _ rfl (blk_setRow hb2 zero8) Try.underlying49 rfl info_name) rfl ?_
        exact ⟨ret_eq (by rw [HR.out]; rfl), only_setRow hO12 _ _ (fun hk => absurd hk (Nat.lt_irrefl _))⟩
end Go.Proofs.Ytlilhdkaaendlaa
