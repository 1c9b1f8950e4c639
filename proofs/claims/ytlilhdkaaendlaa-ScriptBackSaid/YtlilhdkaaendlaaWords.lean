/- num.Words cuts a line: the walks. No statement is proved here. -/
import Derived.Test.YtlilhdkaaendlaaPrint
import Derived.Test.YtlilhdkaaendlaaBun
import Derived.Test.YtlilhdkaaendlaaParse
namespace Go.Proofs.Ytlilhdkaaendlaa
open Go.RowKit

/-- What stands between bytes that are marks; cur: the piece begun. -/
def cutGo (mark : UInt8 → Bool) (cur : List UInt8) : List UInt8 → List (List UInt8)
  | [] => if cur = [] then [] else [cur]
  | c :: l => if mark c = true then cur :: cutGo mark [] l else cutGo mark (cur ++ [c]) l
def blankB (c : UInt8) : Bool := c == 32 || c == 9
def wordsM (l : List UInt8) : List (List UInt8) := (cutGo blankB [] l).filter fun p => !p.isEmpty

theorem w1_c (c : UInt8) (w : World) : Calls Try.prog 58 #[.int .u8 (c.toNat : Int)] w fun e w' => e = .returned (.bool (blankB c)) ∧ w = w' := by
  have e1 : ((c.toNat : Int) == 32) = (c == 32) := by
    rw [Bool.eq_iff_iff, beq_iff_eq, beq_iff_eq]
    exact ⟨fun h => UInt8.toNat_inj.1 (by show c.toNat = 32; omega), fun h => by subst h; rfl⟩
  have e2 : ((c.toNat : Int) == 9) = (c == 9) := by
    rw [Bool.eq_iff_iff, beq_iff_eq, beq_iff_eq]
    exact ⟨fun h => UInt8.toNat_inj.1 (by show c.toNat = 9; omega), fun h => by subst h; rfl⟩
  cases h1 : c == 32 with
  | true =>
    have hb : blankB c = true := by simp [blankB, h1]
    have HB := Lib.hid hb
    rw [h1] at e1
    clear hb h1 e2
    go_enter Try.func58, Try.ntmps58
    go_wp2
    go_ret
    exact ⟨ret_eq (by rw [HB.out]; rfl), rfl⟩
  | false =>
    have hb : blankB c = (c == 9) := by simp [blankB, h1]
    have HB := Lib.hid hb
    rw [h1] at e1
    cases h2 : c == 9
    all_goals
      rw [h2] at e2 HB
      have HB' := HB
      clear HB hb h1 h2
      go_enter Try.func58, Try.ntmps58
      go_wp2
      go_ret
      exact ⟨ret_eq (by rw [HB'.out]; rfl), rfl⟩

theorem info_str : (Try.prog.info? 9).map (fun i => (i.zero, i.size, i.bytes)) = some (some (.string ⟨#[]⟩), 1, 16) := by kernel_rfl
theorem append1_str {W : World} {ops : Array Oper} {rest : List Oper} {o : Oper} {a : Act} {Q : Exit → Act → World → Prop} (hgd : o.guard = none) (s x : Operand)
    (ho : o.op = .call { callee := .builtin .append, args := #[s, x], argTypes := #[75, 75] })
    (base : Nat) (l : List RowD) (hB : Bun W base l) (j : Nat) (v : Value) (n : Nat) (xs : List Value) (hj : l[j]? = some (9, 1, v, n, xs)) (hs : a.eval s = v)
    (z : ByteArray) (c : Nat) (hx : a.eval x = .slice (some ⟨W.heap.size, 0, none⟩) 1 c) (hn : n ≤ 1000000000000) (hbase : base ≤ W.heap.size)
    (h : ∀ g cap w', Bun w' base (l.set j (9, 1, .slice (some ⟨g, 0, none⟩) (n + 1) cap, n + 1, xs ++ [.string z])) → Only (fun k => base ≤ k) W w' →
      wpList Try.prog ops Q rest (a.put o.dst (.slice (some ⟨g, 0, none⟩) (n + 1) cap)) w') : wpList Try.prog ops Q (o :: rest) a (W.alloc (.cells #[.string z] 9)) := by
  obtain ⟨i0, hi, hz0, hz1, hz2⟩ := info_parts info_str
  exact wpList_append1 hgd s x 75 ho base 9 i0 (.string ⟨#[]⟩) 1 16 Try.underlying75 hi hz0 hz1 hz2 rfl (by decide) l hB j v n xs hj hs [.string z] c _ rfl hx rfl (by simp [Value.oneCell']) (by unfold maxLen; omega) (by omega) hbase h

theorem bun_form {w : World} {base : Nat} {l : List RowD} (h : Bun w base l) (i : Nat) {e size n : Nat} {v : Value} {xs : List Value} (hi : l[i]? = some (e, size, v, n, xs)) : ∃ a cap, v = .slice a n cap := by
  obtain ⟨a, c, hv, -⟩ := row_len (h.owns i _ hi)
  exact ⟨a, c, hv⟩
/-- The box of a list of texts, and the list in it. -/
structure OutBox (W : World) (B : Nat) (qs : List ByteArray) (w : World) : Prop where
  box : ∃ v, Blk W B #[v] 75 ∧ Bun W (B + 1) [(9, 1, v, qs.length, qs.map Value.string)]
  only : Only No w W
  lt : w.heap.size ≤ B

set_option maxRecDepth 100000 in
theorem w2_add (p : ByteArray) (B : Nat) (qs : List ByteArray) (W w : World) (h : OutBox W B qs w) (hp : p.toList.isEmpty = false) (hn : qs.length ≤ 1000000000) :
    Calls Try.prog 59 #[.string p, .pointer (some ⟨B, 0, none⟩)] W fun e w' => e = .returned (.tuple #[]) ∧ OutBox w' B (qs ++ [p]) w := by
  obtain ⟨v, hb, hB⟩ := h.box
  have hc := hb.cell 0 v rfl
  have hf := hb.free 0
  have z1 : B + 1 ≤ W.heap.size := by have := hb.lt; omega
  obtain ⟨a, cap, rfl⟩ := bun_form hB 0 rfl
  go_enter Try.func59, Try.ntmps59
  go_wp2_with (at_builtin; refine append1_str rfl (.tmp 5) (.tmp 7) rfl (B + 1) _ hB 0 _ _ _ rfl rfl _ _ rfl (by omega) z1 ?_; intro g cap1 w1 hB1 hO1; have hb1 := hO1.blk hb (by omega); have hc1 := hb1.cell 0 _ rfl; have hf1 := hb1.free 0)
  go_end0
  refine ⟨rfl, ⟨_, hb1.set 0 _, ?_⟩, ?_, h.lt⟩
  · have := hB1.only (w' := w1.setCell ⟨B, 0, none⟩ (.slice (some ⟨g, 0, none⟩) (qs.length + 1) cap1)) (S := (· = B)) ((Only.refl _ _).set1 0 _) (fun k hk e => by omega)
    simpa using this
  · exact (h.only.then hO1 (fun i hi e => absurd e (by have := h.lt; omega))).setCell _ _ (fun hk => absurd h.lt (by show ¬ w.heap.size ≤ B; exact Nat.not_le.2 hk))
set_option maxRecDepth 100000 in
theorem w2_skip (p : ByteArray) (B : Nat) (W : World) (hp : p.toList.isEmpty = true) :
    Calls Try.prog 59 #[.string p, .pointer (some ⟨B, 0, none⟩)] W fun e w' => e = .returned (.tuple #[]) ∧ W = w' := by
  go_enter Try.func59, Try.ntmps59
  go_wp2
  go_end0
  exact ⟨rfl, rfl⟩
def keepB (p : ByteArray) : Bool := !p.toList.isEmpty
theorem w2_c (p : ByteArray) (B : Nat) (ps : List ByteArray) (W w : World) (h : OutBox W B (ps.filter keepB) w) (hn : ps.length ≤ 1000000000) :
    Calls Try.prog 59 #[.string p, .pointer (some ⟨B, 0, none⟩)] W fun e w' => e = .returned (.tuple #[]) ∧ OutBox w' B ((ps ++ [p]).filter keepB) w := by
  cases hp : p.toList.isEmpty with
  | true =>
    refine (w2_skip p B W hp).mono fun e w' ⟨he, hw⟩ => ⟨he, ?_⟩
    subst hw
    have : (ps ++ [p]).filter keepB = ps.filter keepB := by simp [keepB, hp]
    rw [this]; exact h
  | false =>
    have : (ps ++ [p]).filter keepB = ps.filter keepB ++ [p] := by simp [keepB, hp]
    rw [this]
    exact w2_add p B _ W w h hp (Nat.le_trans (List.length_filter_le _ _) hn)

/-- The pieces of a text, as they are put: a rest begins at 'from'. -/
structure CutJ (mark : UInt8 → Bool) (s : ByteArray) (frm i : Nat) (ps : List ByteArray) : Prop where
  fi : frm ≤ i
  im : i ≤ s.size
  pc : ps.map (fun p => p.data.toList) ++ cutGo mark ((s.data.toList.drop frm).take (i - frm)) (s.data.toList.drop i) = cutGo mark [] s.data.toList
  pl : ps.length ≤ i
theorem CutJ.hit {mark : UInt8 → Bool} {s : ByteArray} {frm i : Nat} {ps : List ByteArray} (h : CutJ mark s frm i ps) {c : UInt8} (hc : s.data.toList[i]? = some c) (hm : mark c = true) :
    CutJ mark s (i + 1) (i + 1) (ps ++ [s.extract frm i]) := by
  obtain ⟨hlt, he⟩ := List.getElem?_eq_some_iff.1 hc
  have hl : i < s.size := hlt
  refine ⟨Nat.le_refl _, by omega, ?_, by simp; have := h.pl; omega⟩
  rw [← h.pc, List.drop_eq_getElem_cons hlt, he]
  simp [cutGo, hm]
theorem CutJ.miss {mark : UInt8 → Bool} {s : ByteArray} {frm i : Nat} {ps : List ByteArray} (h : CutJ mark s frm i ps) {c : UInt8} (hc : s.data.toList[i]? = some c) (hm : mark c = false) : CutJ mark s frm (i + 1) ps := by
  obtain ⟨hlt, he⟩ := List.getElem?_eq_some_iff.1 hc
  have hl : i < s.size := hlt
  have hfi := h.fi
  refine ⟨by omega, by omega, ?_, by have := h.pl; omega⟩
  rw [← h.pc, List.drop_eq_getElem_cons hlt, he]
  have e : (s.data.toList.drop frm).take (i + 1 - frm) = (s.data.toList.drop frm).take (i - frm) ++ [c] := by
    rw [show i + 1 - frm = (i - frm) + 1 by omega, List.take_add_one, List.getElem?_drop, show frm + (i - frm) = i by omega, hc]
    rfl
  rw [e]
  simp [cutGo, hm]
theorem CutJ.ends {mark : UInt8 → Bool} {s : ByteArray} {frm : Nat} {ps : List ByteArray} (h : CutJ mark s frm s.size ps) :
    (frm < s.size → (ps ++ [s.extract frm s.size]).map (fun p => p.data.toList) = cutGo mark [] s.data.toList) ∧ (¬ frm < s.size → ps.map (fun p => p.data.toList) = cutGo mark [] s.data.toList) := by
  have hp := h.pc
  have hlen : s.data.toList.length = s.size := rfl
  have hnil : List.drop s.size s.data.toList = [] := List.drop_eq_nil_of_le (by omega)
  rw [hnil] at hp
  constructor
  · intro hf
    rw [← hp]
    have : ¬ List.take (s.size - frm) (List.drop frm s.data.toList) = [] := by
      intro e
      have := congrArg List.length e
      rw [List.length_take, List.length_drop] at this
      simp at this; omega
    simp [cutGo, this]
  · intro hf
    rw [← hp]
    have : List.take (s.size - frm) (List.drop frm s.data.toList) = [] := by
      rw [show s.size - frm = 0 by omega]; rfl
    simp [cutGo, this]

/-- A function that marks bytes, and one that takes pieces. -/
structure Marks (fm : FuncId) (cm : Array Value) (mark : UInt8 → Bool) : Prop where
  ent : ∀ (args : Array Value) (W : World), (callFunc fm args).run Try.prog W = .ok (.enter fm args) W
  calls : ∀ (c : UInt8) (w : World), Calls Try.prog fm (#[.int .u8 (c.toNat : Int)] ++ cm) w fun e w' => e = .returned (.bool (mark c)) ∧ w = w'
structure Puts (fp : FuncId) (cp : Array Value) (I : List ByteArray → World → Prop) : Prop where
  ent : ∀ (args : Array Value) (W : World), (callFunc fp args).run Try.prog W = .ok (.enter fp args) W
  calls : ∀ (ps : List ByteArray) (p : ByteArray) (W : World), I ps W → ps.length ≤ 1000000000 → Calls Try.prog fp (#[.string p] ++ cp) W fun e w' => e = .returned (.tuple #[]) ∧ I (ps ++ [p]) w'

def CutA (mark : UInt8 → Bool) (s : ByteArray) (I : List ByteArray → World → Prop) (frm i : Nat) (wr : World) : Prop := ∃ ps, CutJ mark s frm i ps ∧ I ps wr

set_option maxRecDepth 100000 in
set_option maxHeartbeats 1600000 in
theorem cut_c (s : ByteArray) (fm fp : FuncId) (cm cp : Array Value) (mark : UInt8 → Bool) (I : List ByteArray → World → Prop) (hm : Marks fm cm mark) (hp : Puts fp cp I) (w : World) (hI : I [] w) (hs : s.size ≤ 900000000) :
    Calls Try.prog 55 #[.string s, .func (.func fm) #[] cm, .func (.func fp) #[] cp] w fun e w' => e = .returned (.tuple #[]) ∧ ∃ ps, ps.map (fun p => p.data.toList) = cutGo mark [] s.data.toList ∧ I ps w' := by
  go_enter Try.func55, Try.ntmps55
  go_wp2_with fail
  go_loopg [6, 10] (s.size : Nat) (fun g v6 v10 wr => ∃ (frm i : Nat), i + g = s.size ∧ v6 = .int .i64 frm ∧ v10 = .int .i64 i ∧ CutA mark s I frm i wr)
  case atStart => exact ⟨0, 0, by omega, rfl, rfl, [], ⟨Nat.le_refl _, by omega, by simp, by simp⟩, hI⟩
  case round =>
    obtain ⟨frm, i, hig, rfl, rfl, hA⟩ := hrel
    by_cases hlt : i < s.size
    · obtain ⟨c, hc⟩ : ∃ c, s.data.toList[i]? = some c := ⟨_, List.getElem?_eq_getElem hlt⟩
      have hix := fun W : World => str_at s i c hc W
      obtain ⟨ps, hJ, hW⟩ := hA
      have hfi := hJ.fi
      have hpl := hJ.pl
      have he1 := hm.ent
      have he2 := hp.ent
      cases hmk : mark c with
      | true =>
        have hn := hJ.hit hc hmk
        have HN := Lib.hid hn
        have HM := Lib.hid hmk
        clear hn hmk hc
        go_wp2_with fail
        refine (hm.calls c _).mono ?_
        rw [HM.out]
        rintro e w' ⟨rfl, rfl⟩
        go_wp2_with fail
        refine (hp.calls ps (s.extract frm i) _ hW (by omega)).mono ?_
        rintro e w' ⟨rfl, hW'⟩
        go_wp2_with fail
        go_roundg (s.size - (i + 1))
        case measure => omega
        case rel => exact ⟨i + 1, i + 1, by omega, by go_num, by go_num, _, HN.out, hW'⟩
      | false =>
        have hn := hJ.miss hc hmk
        have HN := Lib.hid hn
        have HM := Lib.hid hmk
        clear hn hmk hc
        go_wp2_with fail
        refine (hm.calls c _).mono ?_
        rw [HM.out]
        rintro e w' ⟨rfl, rfl⟩
        go_wp2_with fail
        go_roundg (s.size - (i + 1))
        case measure => omega
        case rel => exact ⟨frm, i + 1, by omega, rfl, by go_num, _, HN.out, hW⟩
    · obtain ⟨ps, hJ, hW⟩ := hA
      have hie : i = s.size := by omega
      subst hie
      have hpl := hJ.pl
      have he2 := hp.ent
      by_cases hf : frm < s.size
      · have hE := hJ.ends.1 hf
        have HE := Lib.hid hE
        clear hE
        go_wp2_with fail
        refine (hp.calls ps (s.extract frm s.size) _ hW (by omega)).mono ?_
        rintro e w' ⟨rfl, hW'⟩
        go_wp2_with fail
        go_end0
        exact ⟨rfl, _, HE.out, hW'⟩
      · have hE := hJ.ends.2 hf
        have HE := Lib.hid hE
        have hf' : (s.size : Int) ≤ (frm : Int) := by omega
        clear hE hf
        go_wp2_with fail
        go_end0
        exact ⟨rfl, _, HE.out, hW⟩
end Go.Proofs.Ytlilhdkaaendlaa
