/- num.Split and the reference's Split: the walks. No statement is proved here. -/
import Derived.Test.YtpegbplppfbomaaRWords
import Derived.Test.YtpegbplppfbomaaRParse
namespace Go.Proofs.Ytpegbplppfbomaa
open Go.RowKit

/-- The numbers of the words, or the first word that is none, and why. -/
def splitGo (lo hi : Int) (i : Nat) (acc : List Int) : List (List UInt8) → List Int × Nat × Int
  | [] => (acc, 0, 0)
  | p :: ps => if (parseM p lo hi).2 = 0 then splitGo lo hi (i + 1) (acc ++ [(parseM p lo hi).1]) ps else ([], i, (parseM p lo hi).2)
def splitM (s : List UInt8) (lo hi : Int) : List Int × Nat × Int := splitGo lo hi 0 [] (wordsM s)

theorem info_int8 : (Try.prog.info? 3).map (fun i => (i.zero, i.size, i.bytes)) = some (some (.int .i64 0), 1, 8) := by kernel_rfl
theorem append1_i64 {W : World} {ops : Array Oper} {rest : List Oper} {o : Oper} {a : Act} {Q : Exit → Act → World → Prop} (hgd : o.guard = none) (s x : Operand)
    (ho : o.op = .call { callee := .builtin .append, args := #[s, x], argTypes := #[28, 28] })
    (base : Nat) (l : List RowD) (hB : Bun W base l) (j : Nat) (v : Value) (n : Nat) (xs : List Value) (hj : l[j]? = some (3, 1, v, n, xs)) (hs : a.eval s = v)
    (z : Int) (c : Nat) (hx : a.eval x = .slice (some ⟨W.heap.size, 0, none⟩) 1 c) (hn : n ≤ 1000000000000) (hbase : base ≤ W.heap.size)
    (h : ∀ g cap w', Bun w' base (l.set j (3, 1, .slice (some ⟨g, 0, none⟩) (n + 1) cap, n + 1, xs ++ [.int .i64 z])) → Only (fun k => base ≤ k) W w' →
      wpList Try.prog ops Q rest (a.put o.dst (.slice (some ⟨g, 0, none⟩) (n + 1) cap)) w') : wpList Try.prog ops Q (o :: rest) a (W.alloc (.cells #[.int .i64 z] 3)) := by
  obtain ⟨i0, hi, hz0, hz1, hz2⟩ := info_parts info_int8
  exact wpList_append1 hgd s x 28 ho base 3 i0 (.int .i64 0) 1 8 Try.underlying28 hi hz0 hz1 hz2 rfl (by decide) l hB j v n xs hj hs [.int .i64 z] c _ rfl hx rfl (by simp [Value.oneCell']) (by unfold maxLen; omega) (by omega) hbase h

/-- What Split answers. -/
def SplitR (r : List Int × Nat × Int) (w : World) (e : Ending) (w' : World) : Prop :=
  ∃ v : Value, e = .returned (.tuple #[v, .int .i64 (r.2.1 : Int), .int .i64 r.2.2]) ∧ w'.ownsRow w.heap.size 3 1 v r.1.length (ints r.1) ∧ Only No w w'

theorem texts_get {ps : List ByteArray} {k : Nat} (h : k < ps.length) : (ps.map Value.string)[k]? = some (.string ps[k]) := by simp [h]

def splitCase (ps : List ByteArray) (lo hi : Int) (s : List UInt8) (k : Nat) (acc : List Int) : Prop :=
  splitM s lo hi = splitGo lo hi k acc ((ps.drop k).map fun p => p.data.toList)
theorem splitCase.ok {ps : List ByteArray} {lo hi : Int} {s : List UInt8} {k : Nat} {acc : List Int} (h : splitCase ps lo hi s k acc) (hk : k < ps.length) (he : (parseM ps[k].data.toList lo hi).2 = 0) :
    splitCase ps lo hi s (k + 1) (acc ++ [(parseM ps[k].data.toList lo hi).1]) := by
  unfold splitCase at *
  rw [h, List.drop_eq_getElem_cons hk, List.map_cons, splitGo, if_pos he]
theorem splitCase.bad {ps : List ByteArray} {lo hi : Int} {s : List UInt8} {k : Nat} {acc : List Int} (h : splitCase ps lo hi s k acc) (hk : k < ps.length) (he : ¬ (parseM ps[k].data.toList lo hi).2 = 0) :
    splitM s lo hi = ([], k, (parseM ps[k].data.toList lo hi).2) := by
  unfold splitCase at h
  rw [h, List.drop_eq_getElem_cons hk, List.map_cons, splitGo, if_neg he]
theorem splitCase.done {ps : List ByteArray} {lo hi : Int} {s : List UInt8} {acc : List Int} (h : splitCase ps lo hi s ps.length acc) : splitM s lo hi = (acc, 0, 0) := by
  unfold splitCase at h
  rw [h, List.drop_length]
  simp [splitGo]
theorem cutGo_bound (m : UInt8 → Bool) (l : List UInt8) : ∀ cur : List UInt8, ((cutGo m cur l).filter fun p => !p.isEmpty).length ≤ cur.length + l.length ∧ ∀ p ∈ cutGo m cur l, p.length ≤ cur.length + l.length := by
  induction l with
  | nil =>
    intro cur
    unfold cutGo
    split
    · simp
    · rename_i h
      have hp : 0 < cur.length := List.length_pos_iff.2 h
      refine ⟨Nat.le_trans (List.length_filter_le _ _) (by simp; omega), by simp⟩
  | cons c l ih =>
    intro cur
    unfold cutGo
    split
    · obtain ⟨h1, h2⟩ := ih []
      simp only [List.length_nil, Nat.zero_add] at h1 h2
      refine ⟨?_, ?_⟩
      · rw [List.filter_cons]
        split
        · rename_i hn
          have : 0 < cur.length := by cases cur with
            | nil => simp at hn
            | cons a b => simp
          simp; omega
        · simp; omega
      · intro p hp
        rcases List.mem_cons.1 hp with rfl | hp
        · omega
        · have := h2 p hp
          simp; omega
    · obtain ⟨h1, h2⟩ := ih (cur ++ [c])
      simp only [List.length_append, List.length_singleton] at h1 h2
      refine ⟨by simp; omega, fun p hp => by have := h2 p hp; simp; omega⟩
theorem pieces_le {s : ByteArray} {ps : List ByteArray} (hps : ps.map (fun p => p.data.toList) = wordsM s.data.toList) : ps.length ≤ s.size ∧ ∀ k (h : k < ps.length), ps[k].size ≤ s.size := by
  obtain ⟨h1, h2⟩ := cutGo_bound blankB s.data.toList []
  simp only [List.length_nil, Nat.zero_add] at h1 h2
  refine ⟨?_, fun k h => ?_⟩
  · have := congrArg List.length hps
    rw [List.length_map] at this
    rw [this]; exact h1
  · have hm : ps[k].data.toList ∈ wordsM s.data.toList := by
      rw [← hps]
      exact List.mem_map.2 ⟨ps[k], List.getElem_mem h, rfl⟩
    exact h2 _ (List.mem_filter.1 hm).1

set_option maxRecDepth 100000 in
theorem split_c (s : ByteArray) (lo hi : Int) (w : World) (hs : s.size ≤ 900000000) : Calls Try.prog 31 #[.string s, .int .i64 lo, .int .i64 hi] w (SplitR (splitM s.data.toList lo hi) w) := by
  go_enter Try.func31, Try.ntmps31
  go_wp2_with fail
  refine (words_c s _ hs).mono ?_
  rintro e w1 ⟨v, ps, rfl, hrow, hps, hO1⟩
  obtain ⟨hp1, hp2⟩ := pieces_le hps
  have hstart : splitCase ps lo hi s.data.toList 0 [] := by unfold splitCase; rw [List.drop_zero, hps]; rfl
  have HSt := Lib.hid hstart
  have hz1 : w.heap.size ≤ w1.heap.size := hO1.size
  have hsee := Sees.of_row hrow
  obtain ⟨a, cap, rfl, -, hcells⟩ := hsee.form
  simp only [List.length_map] at hcells ⊢
  clear hstart hps hrow hsee
  go_wp2_with fail
  go_loopg [9, 17] (ps.length : Nat) (fun g v9 v17 wr => ∃ (k : Nat) (acc : List Int), k + g = ps.length ∧ v17 = .int .i64 k ∧ splitCase ps lo hi s.data.toList k acc ∧ Bun wr w1.heap.size [(3, 1, v9, acc.length, ints acc)] ∧ acc.length ≤ k ∧ Only No w1 wr)
  case atStart => exact ⟨0, [], by omega, rfl, HSt.out, (Bun.nil _ _).cons_nil _ _, by simp, Only.refl _ _⟩
  case round =>
    obtain ⟨k, acc, hk, rfl, hC, hB, hacc, hO⟩ := hrel
    have HC := Lib.hid hC
    clear hC
    obtain ⟨a9, c9, rfl⟩ := bun_form hB 0 rfl
    have z1 : w1.heap.size ≤ wr.heap.size := hO.size
    by_cases hlt : k < ps.length
    · obtain ⟨b, off, rfl, hb, hcell⟩ := hcells (by omega)
      have c1 := (hO.cell (p := ⟨b, off + k, none⟩) hb id).trans (hcell k _ (texts_get hlt))
      have hsz := hp2 k hlt
      have hok := fun he => HC.out.ok hlt he
      have hbad := fun he => HC.out.bad hlt he
      clear hcells hcell hp2 HC
      generalize ps[k] = p at *
      by_cases he : (parseM p.data.toList lo hi).2 = 0
      · have HN := Lib.hid (hok he)
        have HE := Lib.hid he
        clear hok hbad he
        go_wp2_with fail
        refine (parse_c p lo hi _ (by omega)).mono ?_
        rw [HE.out]
        rintro e w2 ⟨rfl, ⟨nd, rfl⟩⟩
        have hB2 := hB.drewN nd
        go_wp2_with (at_builtin; refine append1_i64 rfl (.tmp 33) (.tmp 35) rfl w1.heap.size _ hB2 0 _ _ _ rfl rfl _ _ rfl (by omega) (by exact z1) ?_; intro g cap1 w3 hB3 hO3)
        go_roundg (ps.length - (k + 1))
        case measure => omega
        case rel => exact ⟨k + 1, _, by omega, by go_num, HN.out, by simpa [ints] using hB3, by simp; omega, (hO.drewN nd).then hO3 (fun i hi e => absurd e (by omega))⟩
      · have HR := Lib.hid (hbad he)
        have hne : ((parseM p.data.toList lo hi).2 != 0) = true := by rw [bne_iff_ne]; exact he
        clear hok hbad he
        go_wp2_with fail
        refine (parse_c p lo hi _ (by omega)).mono ?_
        rintro e w2 ⟨rfl, ⟨nd, rfl⟩⟩
        go_wp2_with fail
        go_ret3
        refine ⟨.slice none 0 0, ret_eq (by rw [HR.out]; rfl), by rw [HR.out]; exact World.ownsRow_nil _ _ _ _, (hO1.trans hO).drewN nd⟩
    · have hke : k = ps.length := by omega
      subst hke
      have HR := Lib.hid HC.out.done
      clear HC hcells
      go_wp2_with fail
      go_ret3
      refine ⟨_, ret_eq (by rw [HR.out]; rfl), ?_, hO1.trans hO⟩
      rw [HR.out]
      exact ownsRow_down (hB.owns 0 _ rfl) hz1

set_option maxRecDepth 100000 in
theorem rsplit_c (s : ByteArray) (lo hi : Int) (w : World) (hs : s.size ≤ 900000000) : Calls Try.prog 32 #[.string s, .int .i64 lo, .int .i64 hi] w (SplitR (splitM s.data.toList lo hi) w) := by
  go_enter Try.func32, Try.ntmps32
  go_wp2_with fail
  refine (rwords_c s _ hs).mono ?_
  rintro e w1 ⟨v, ps, rfl, hrow, hps, hO1⟩
  obtain ⟨hp1, hp2⟩ := pieces_le hps
  have hstart : splitCase ps lo hi s.data.toList 0 [] := by unfold splitCase; rw [List.drop_zero, hps]; rfl
  have HSt := Lib.hid hstart
  have hz1 : w.heap.size ≤ w1.heap.size := hO1.size
  have hsee := Sees.of_row hrow
  obtain ⟨a, cap, rfl, -, hcells⟩ := hsee.form
  simp only [List.length_map] at hcells ⊢
  clear hstart hps hrow hsee
  go_wp2_with fail
  go_loopg [9, 11] (ps.length : Nat) (fun g v9 v17 wr => ∃ (k : Nat) (acc : List Int), k + g = ps.length ∧ v17 = .int .i64 k ∧ splitCase ps lo hi s.data.toList k acc ∧ Bun wr w1.heap.size [(3, 1, v9, acc.length, ints acc)] ∧ acc.length ≤ k ∧ Only No w1 wr)
  case atStart => exact ⟨0, [], by omega, rfl, HSt.out, (Bun.nil _ _).cons_nil _ _, by simp, Only.refl _ _⟩
  case round =>
    obtain ⟨k, acc, hk, rfl, hC, hB, hacc, hO⟩ := hrel
    have HC := Lib.hid hC
    clear hC
    obtain ⟨a9, c9, rfl⟩ := bun_form hB 0 rfl
    have z1 : w1.heap.size ≤ wr.heap.size := hO.size
    by_cases hlt : k < ps.length
    · obtain ⟨b, off, rfl, hb, hcell⟩ := hcells (by omega)
      have c1 := (hO.cell (p := ⟨b, off + k, none⟩) hb id).trans (hcell k _ (texts_get hlt))
      have hsz := hp2 k hlt
      have hok := fun he => HC.out.ok hlt he
      have hbad := fun he => HC.out.bad hlt he
      clear hcells hcell hp2 HC
      generalize ps[k] = p at *
      by_cases he : (parseM p.data.toList lo hi).2 = 0
      · have HN := Lib.hid (hok he)
        have HE := Lib.hid he
        clear hok hbad he
        go_wp2_with fail
        refine (rparse_c p lo hi _ (by omega)).mono ?_
        rw [HE.out]
        rintro e w2 ⟨rfl, rfl⟩
        go_wp2_with (at_builtin; refine append1_i64 rfl (.tmp 36) (.tmp 38) rfl w1.heap.size _ hB 0 _ _ _ rfl rfl _ _ rfl (by omega) (by exact z1) ?_; intro g cap1 w3 hB3 hO3)
        go_roundg (ps.length - (k + 1))
        case measure => omega
        case rel => exact ⟨k + 1, _, by omega, by go_num, HN.out, by simpa [ints] using hB3, by simp; omega, hO.then hO3 (fun i hi e => absurd e (by omega))⟩
      · have HR := Lib.hid (hbad he)
        have hne : ((parseM p.data.toList lo hi).2 != 0) = true := by rw [bne_iff_ne]; exact he
        clear hok hbad he
        go_wp2_with fail
        refine (rparse_c p lo hi _ (by omega)).mono ?_
        rintro e w2 ⟨rfl, rfl⟩
        go_wp2_with fail
        go_ret3
        refine ⟨.slice none 0 0, ret_eq (by rw [HR.out]; rfl), by rw [HR.out]; exact World.ownsRow_nil _ _ _ _, hO1.trans hO⟩
    · have hke : k = ps.length := by omega
      subst hke
      have HR := Lib.hid HC.out.done
      clear HC hcells
      go_wp2_with fail
      go_ret3
      refine ⟨_, ret_eq (by rw [HR.out]; rfl), ?_, hO1.trans hO⟩
      rw [HR.out]
      exact ownsRow_down (hB.owns 0 _ rfl) hz1
end Go.Proofs.Ytpegbplppfbomaa
