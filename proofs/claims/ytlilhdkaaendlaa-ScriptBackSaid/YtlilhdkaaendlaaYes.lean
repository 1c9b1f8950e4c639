/- num.Lines, and the document's Lines. A word that is yes or no: the program's and the document's. No statement is proved here. -/
import Derived.Test.YtlilhdkaaendlaaRWords
import Derived.Test.YtlilhdkaaendlaaReaders

namespace Go.Proofs.Ytlilhdkaaendlaa
open Go.RowKit

def feedB (c : UInt8) : Bool := c == 10
def linesM (l : List UInt8) : List (List UInt8) := cutGo feedB [] l
theorem feed_eq (c : UInt8) : ((c.toNat : Int) == 10) = feedB c := by
  unfold feedB
  rw [Bool.eq_iff_iff, beq_iff_eq, beq_iff_eq]
  exact ⟨fun h => UInt8.toNat_inj.1 (by show c.toNat = 10; omega), fun h => by subst h; rfl⟩
theorem l1_c (c : UInt8) (w : World) : Calls Try.prog 56 #[.int .u8 (c.toNat : Int)] w fun e w' => e = .returned (.bool (feedB c)) ∧ w = w' := by
  have e1 := feed_eq c
  go_enter Try.func56, Try.ntmps56
  go_wp2
  go_ret
  exact ⟨ret_eq (by first | rfl | (rw [← e1]; rfl)), rfl⟩
set_option maxRecDepth 100000 in
theorem l2_c (p : ByteArray) (B : Nat) (qs : List ByteArray) (W w : World) (h : OutBox W B qs w) (hn : qs.length ≤ 1000000000) :
    Calls Try.prog 57 #[.string p, .pointer (some ⟨B, 0, none⟩)] W fun e w' => e = .returned (.tuple #[]) ∧ OutBox w' B (qs ++ [p]) w := by
  obtain ⟨v, hb, hB⟩ := h.box
  have hc := hb.cell 0 v rfl
  have hf := hb.free 0
  have z1 : B + 1 ≤ W.heap.size := by have := hb.lt; omega
  obtain ⟨a, cap, rfl⟩ := bun_form hB 0 rfl
  go_enter Try.func57, Try.ntmps57
  go_wp2_with (at_builtin; refine append1_str rfl (.tmp 3) (.tmp 5) rfl (B + 1) _ hB 0 _ _ _ rfl rfl _ _ rfl (by omega) z1 ?_; intro g cap1 w1 hB1 hO1; have hb1 := hO1.blk hb (by omega); have hc1 := hb1.cell 0 _ rfl; have hf1 := hb1.free 0)
  go_end0
  refine ⟨rfl, ⟨_, hb1.set 0 _, ?_⟩, ?_, h.lt⟩
  · have := hB1.only (w' := w1.setCell ⟨B, 0, none⟩ (.slice (some ⟨g, 0, none⟩) (qs.length + 1) cap1)) (S := (· = B)) ((Only.refl _ _).set1 0 _) (fun k hk e => by omega)
    simpa using this
  · exact (h.only.then hO1 (fun i hi e => absurd e (by have := h.lt; omega))).setCell _ _ (fun hk => absurd h.lt (by show ¬ w.heap.size ≤ B; exact Nat.not_le.2 hk))
theorem l1_marks : Marks 56 #[] feedB := ⟨fun args W => by kernel_rfl, fun c w => l1_c c w⟩
theorem l2_puts (B : Nat) (w : World) : Puts 57 #[.pointer (some ⟨B, 0, none⟩)] (fun ps W => OutBox W B ps w) :=
  ⟨fun args W => by kernel_rfl, fun ps p W h hn => l2_c p B ps W w h hn⟩
set_option maxRecDepth 100000 in
theorem lines_c (s : ByteArray) (w : World) (hs : s.size ≤ 900000000) : Calls Try.prog 28 #[.string s] w (TextsR (linesM s.data.toList) w) := by
  have hI : OutBox (w.alloc (.cells #[.slice none 0 0] 75)) w.heap.size ([] : List ByteArray) w :=
    ⟨⟨_, Blk.new _ _ _, (Bun.nil _ _).cons_nil _ _⟩, (Only.refl _ _).alloc _, Nat.le_refl _⟩
  have hcut := cut_c s 56 57 #[] #[.pointer (some ⟨w.heap.size, 0, none⟩)] feedB _ l1_marks (l2_puts w.heap.size w) _ hI hs
  have HC := Lib.hid hcut
  clear hcut hI
  go_enter Try.func28, Try.ntmps28
  go_wp2_with fail
  refine HC.out.mono ?_
  rintro e w' ⟨rfl, ps, hps, hB⟩
  obtain ⟨v, hb, hBun⟩ := hB.box
  obtain ⟨a, cap, rfl⟩ := bun_form hBun 0 rfl
  have hc := hb.cell 0 _ rfl
  have hf := hb.free 0
  have hW : TextsR (linesM s.data.toList) w (.returned (.slice a ps.length cap)) (w'.setCell ⟨w.heap.size, 0, none⟩ (.slice a ps.length cap)) := by
    refine ⟨_, ps, rfl, ?_, hps, hB.only.setCell _ _ (fun hk => absurd hk (Nat.lt_irrefl _))⟩
    have := hBun.only (w' := w'.setCell ⟨w.heap.size, 0, none⟩ (.slice a ps.length cap)) (S := (· = w.heap.size)) ((Only.refl _ _).set1 0 _) (fun k hk e => by omega)
    exact ownsRow_down (this.owns 0 _ rfl) (by omega)
  have HW := Lib.hid hW
  have hc2 := (hb.set 0 (.slice a ps.length cap)).cell 0 _ rfl
  clear hW
  go_wp2_with fail
  exact bodyPost_ret (v := .slice a ps.length cap) (by simp [results, Try.results28, go_sem, hc2]) rfl HW.out
set_option maxRecDepth 100000 in
set_option maxHeartbeats 800000 in
theorem rlines_c (s : ByteArray) (w : World) (hs : s.size ≤ 900000000) : Calls Try.prog 32 #[.string s] w (TextsR (linesM s.data.toList) w) := by
  go_enter Try.func32, Try.ntmps32
  go_wp2_with fail
  go_loopg [3, 4, 5] (s.size : Nat) (fun g v3 v4 v5 wr => ∃ (i frm : Nat) (qs : List ByteArray), i + g = s.size ∧ v5 = .int .i64 i ∧ v4 = .int .i64 frm ∧ CutJ feedB s frm i qs ∧ Bun wr w.heap.size [(9, 1, v3, qs.length, qs.map Value.string)] ∧ Only No w wr)
  case atStart => exact ⟨0, 0, [], by omega, rfl, rfl, ⟨by omega, by omega, by simp, by simp⟩, (Bun.nil _ _).cons_nil _ _, Only.refl _ _⟩
  case round =>
    obtain ⟨i, frm, qs, hig, rfl, rfl, hJ, hB, hO⟩ := hrel
    obtain ⟨a, cap, rfl⟩ := bun_form hB 0 rfl
    have z1 : w.heap.size ≤ wr.heap.size := hO.size
    have hfi : (frm : Int) ≤ (i : Int) := by have := hJ.fi; omega
    have hql : qs.length ≤ 1000000000 := by have := hJ.pl; have := hJ.im; omega
    by_cases hlt : i < s.size
    · obtain ⟨c, hc⟩ : ∃ c, s.data.toList[i]? = some c := ⟨_, List.getElem?_eq_getElem hlt⟩
      have hix := fun W : World => str_at s i c hc W
      have hfe := feed_eq c
      cases hb : feedB c with
      | false =>
        have HN := Lib.hid (hJ.miss hc hb)
        rw [hb] at hfe
        clear hb hc hJ
        go_wp2_with fail
        go_roundg (s.size - (i + 1))
        case measure => omega
        case rel => exact ⟨i + 1, frm, qs, by omega, by go_num, rfl, HN.out, hB, hO⟩
      | true =>
        have HN := Lib.hid (hJ.hit hc hb)
        rw [hb] at hfe
        clear hb hc hJ
        go_wp2_with (at_builtin; refine append1_str rfl (.tmp 16) (.tmp 21) rfl w.heap.size _ hB 0 _ _ _ rfl rfl _ _ rfl (by omega) z1 ?_; intro g cap1 w1 hB1 hO1)
        go_roundg (s.size - (i + 1))
        case measure => omega
        case rel => exact ⟨i + 1, i + 1, qs ++ [s.extract frm i], by omega, by go_num, by go_num, HN.out, by simpa using hB1, hO.then hO1 (fun _ hk hq => absurd hk (Nat.not_lt.2 hq))⟩
    · have hi : i = s.size := by have := hJ.im; omega
      subst hi
      obtain ⟨he1, he2⟩ := hJ.ends
      by_cases hf : frm < s.size
      · have HE := Lib.hid (he1 hf)
        clear he1 he2 hJ
        go_wp2_with (at_builtin; refine append1_str rfl (.tmp 29) (.tmp 33) rfl w.heap.size _ hB 0 _ _ _ rfl rfl _ _ rfl (by omega) z1 ?_; intro g cap1 w1 hB1 hO1)
        go_ret
        refine ⟨_, qs ++ [s.extract frm s.size], rfl, ?_, HE.out, hO.then hO1 (fun _ hk hq => absurd hk (Nat.not_lt.2 hq))⟩
        have := hB1.owns 0 _ rfl
        simpa [RowD.owns] using this
      · have HE := Lib.hid (he2 hf)
        clear he1 he2 hJ
        go_wp2_with fail
        go_ret
        exact ⟨_, qs, rfl, hB.owns 0 _ rfl, HE.out, hO⟩
end Go.Proofs.Ytlilhdkaaendlaa

namespace Go.Proofs.Ytlilhdkaaendlaa
open Go.RowKit

theorem fat_err {w : World} {b rb : Nat} {e : Int} {l : List ByteArray} (h : FAt w b rb e l) : w.cell? ⟨b, 1, none⟩ = some (.int .i64 e) ∧ w.frozen? ⟨b, 1, none⟩ = false := by
  obtain ⟨v, q1, -⟩ := h
  exact ⟨q1.cell 1 _ rfl, q1.free 1⟩
def ynL : List ByteArray := [⟨#[110, 111]⟩, ⟨#[121, 101, 115]⟩]
def yesM (p : ByteArray) : Bool := decide (p.data.toList = [121, 101, 115])
def yesE (p : ByteArray) : Int := if p.data.toList = [121, 101, 115] ∨ p.data.toList = [110, 111] then 0 else 3
theorem idx_yn (p : ByteArray) : idx ynL p = if p.data.toList = [110, 111] then 0 else if p.data.toList = [121, 101, 115] then 1 else -1 := by
  obtain ⟨⟨l⟩⟩ := p
  unfold idx Lib.idxOfS ynL
  simp only [Lib.idxFromS, ByteArray.mk.injEq, Array.mk.injEq]
  by_cases h1 : l = [110, 111]
  · rw [if_pos h1.symm, if_pos h1]; rfl
  rw [if_neg (fun e => h1 e.symm), if_neg h1]
  by_cases h2 : l = [121, 101, 115]
  · rw [if_pos h2.symm, if_pos h2]; rfl
  rw [if_neg (fun e => h2 e.symm), if_neg h2]
theorem idx_yes (p : ByteArray) : (idx ynL p == 1) = yesM p ∧ idxErr ynL p = yesE p := by
  unfold idxErr yesM yesE
  rw [idx_yn]
  by_cases h1 : p.data.toList = [110, 111]
  · have e2 : (if p.data.toList = [121, 101, 115] ∨ p.data.toList = [110, 111] then (0 : Int) else 3) = 0 := if_pos (.inr h1)
    rw [e2, if_pos h1, h1]
    exact ⟨rfl, rfl⟩
  by_cases h2 : p.data.toList = [121, 101, 115]
  · have e2 : (if p.data.toList = [121, 101, 115] ∨ p.data.toList = [110, 111] then (0 : Int) else 3) = 0 := if_pos (.inl h2)
    rw [e2, if_neg h1, if_pos h2, h2]
    exact ⟨rfl, rfl⟩
  have e2 : (if p.data.toList = [121, 101, 115] ∨ p.data.toList = [110, 111] then (0 : Int) else 3) = 3 := if_neg (fun h => h.elim h2 h1)
  rw [e2, if_neg h1, if_neg h2, decide_eq_false h2]
  exact ⟨rfl, rfl⟩
set_option maxRecDepth 100000 in
theorem answer_c (b rb cb : Nat) (e : Int) (p : ByteArray) (r : List ByteArray) (w : World) (h : WAt w b rb e (p :: r)) (hc : w.cell? ⟨cb, 0, none⟩ = some (.pointer (some ⟨b, 0, none⟩))) :
    Calls Try.prog 103 #[.pointer (some ⟨cb, 0, none⟩)] w fun x w' => x = .returned (.bool (yesM p)) ∧ WAt w' b rb (keepE e (yesE p)) r ∧ Only (· = b) w w' := by
  obtain ⟨hlt, hlr, hrne⟩ := h.lt
  obtain ⟨hi1, hi2⟩ := idx_yes p
  rw [← hi1, ← hi2]
  have hB := Blk.new w #[.string ⟨#[110, 111]⟩, .string ⟨#[121, 101, 115]⟩] 9
  have hO1 : Only No w (w.alloc (.cells #[.string ⟨#[110, 111]⟩, .string ⟨#[121, 101, 115]⟩] 9)) := (Only.refl _ _).alloc _
  have hv : Sees (w.alloc (.cells #[.string ⟨#[110, 111]⟩, .string ⟨#[121, 101, 115]⟩] 9)) (.slice (some ⟨w.heap.size, 0, none⟩) 2 2) (txs ynL) := ⟨⟨_, 2, rfl, by simp [txs, ynL], fun _ => ⟨_, 0, rfl, hB.lt, fun j u hu => hB.cell _ u (by simpa [txs, ynL] using hu)⟩⟩⟩
  have HC := Lib.hid (choice_c b rb e p r _ ynL _ (h.only hO1) hv (fun k hk ek => by simp [Value.ownBlock] at hk; omega) (by decide))
  have HO := Lib.hid hO1
  obtain ⟨n, hn⟩ : ∃ n, n = idx ynL p := ⟨_, rfl⟩
  rw [← hn] at HC ⊢
  clear hi1 hi2 hn h hv hB hO1
  go_enter Try.func103, Try.ntmps103
  go_wp2_with fail
  refine HC.out.mono ?_
  rintro x w1 ⟨rfl, hW, hO⟩
  go_wp2_with fail
  go_ret
  exact ⟨rfl, hW, HO.out.of_no.trans hO⟩
set_option maxRecDepth 100000 in
set_option maxHeartbeats 800000 in
theorem ryes_c (b rb : Nat) (e : Int) (p : ByteArray) (r : List ByteArray) (w : World) (h : FAt w b rb e (p :: r)) :
    Calls Try.prog 34 #[.pointer (some ⟨b, 0, none⟩)] w fun x w' => x = .returned (.bool (yesM p)) ∧ FAt w' b rb (keepE e (yesE p)) r ∧ Only (· = b) w w' := by
  have HN := Lib.hid (rnext_c b rb e p r w h)
  clear h
  unfold yesM yesE
  rw [← ByteArray.toList_eq]
  by_cases h1 : p.toList = [121, 101, 115]
  · have q1 : (p.toList == [121, 101, 115]) = true := beq_iff_eq.2 h1
    have hk : keepE e (if p.toList = [121, 101, 115] ∨ p.toList = [110, 111] then 0 else 3) = e := by rw [if_pos (.inl h1), keepE_zero]
    rw [hk, decide_eq_true h1]
    clear hk h1
    go_enter Try.func34, Try.ntmps34
    go_wp2_with fail
    refine HN.out.mono ?_
    rintro x w1 ⟨rfl, hW, hO⟩
    go_wp2_with fail
    go_ret
    exact ⟨rfl, hW, hO⟩
  have q1 : (p.toList == [121, 101, 115]) = false := beq_eq_false_iff_ne.2 h1
  rw [decide_eq_false h1]
  by_cases h2 : p.toList = [110, 111]
  · have q2 : (p.toList == [110, 111]) = true := beq_iff_eq.2 h2
    have hk : keepE e (if p.toList = [121, 101, 115] ∨ p.toList = [110, 111] then 0 else 3) = e := by rw [if_pos (.inr h2), keepE_zero]
    rw [hk]
    clear hk h1 h2
    go_enter Try.func34, Try.ntmps34
    go_wp2_with fail
    refine HN.out.mono ?_
    rintro x w1 ⟨rfl, hW, hO⟩
    go_wp2_with fail
    go_ret
    exact ⟨rfl, hW, hO⟩
  have q2 : (p.toList == [110, 111]) = false := beq_eq_false_iff_ne.2 h2
  rw [if_neg (by rintro (h | h); exact h1 h; exact h2 h)]
  have hk : (e = 0 ∧ keepE e 3 = 3) ∨ ((e == 0) = false ∧ keepE e 3 = e) := by
    by_cases he : e = 0
    · exact .inl ⟨he, if_pos he⟩
    · exact .inr ⟨beq_eq_false_iff_ne.2 he, if_neg he⟩
  rcases hk with ⟨he, hk⟩ | ⟨he, hk⟩
  · rw [hk]
    clear hk h1 h2
    subst he
    go_enter Try.func34, Try.ntmps34
    go_wp2_with fail
    refine HN.out.mono ?_
    rintro x w1 ⟨rfl, hW, hO⟩
    obtain ⟨ce, fe⟩ := fat_err hW
    have HW := Lib.hid (hW.keep 3)
    clear hW
    go_wp2_with fail
    go_ret
    exact ⟨rfl, HW.out, hO.set1 1 _⟩
  · rw [hk]
    clear hk h1 h2
    go_enter Try.func34, Try.ntmps34
    go_wp2_with fail
    refine HN.out.mono ?_
    rintro x w1 ⟨rfl, hW, hO⟩
    obtain ⟨ce, fe⟩ := fat_err hW
    go_wp2_with fail
    go_ret
    exact ⟨rfl, hW, hO⟩
set_option maxRecDepth 100000 in
/-- wants' closure for a line that fits nowhere: ErrForm is kept. -/
theorem wrong_c (b rb : Nat) (e : Int) (l : List ByteArray) (w : World) (h : WAt w b rb e l) :
    Calls Try.prog 87 #[.pointer (some ⟨b, 0, none⟩)] w fun x w' => x = .returned (.tuple #[]) ∧ WAt w' b rb (keepE e 3) l ∧ Only (· = b) w w' := by
  have HK := Lib.hid (keep_c b rb e 3 l w h)
  clear h
  go_enter Try.func87, Try.ntmps87
  go_wp2_with fail
  refine HK.out.mono ?_
  rintro x w1 ⟨rfl, hW, hO⟩
  go_wp2_with fail
  go_end0
  exact ⟨rfl, hW, hO⟩
end Go.Proofs.Ytlilhdkaaendlaa
