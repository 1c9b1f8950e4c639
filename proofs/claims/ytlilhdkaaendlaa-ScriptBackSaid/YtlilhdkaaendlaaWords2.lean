/- num.Words and the reference's Words: the walks. No statement is proved here. -/
import Derived.Test.YtlilhdkaaendlaaWords
namespace Go.Proofs.Ytlilhdkaaendlaa
open Go.RowKit

theorem w1_marks : Marks 58 #[] blankB := ⟨fun args W => by kernel_rfl, fun c w => w1_c c w⟩
theorem w2_puts (B : Nat) (w : World) : Puts 59 #[.pointer (some ⟨B, 0, none⟩)] (fun ps W => OutBox W B (ps.filter keepB) w) :=
  ⟨fun args W => by kernel_rfl, fun ps p W h hn => w2_c p B ps W w h hn⟩

/-- A new list of texts, in memory of its own. -/
def TextsR (L : List (List UInt8)) (w : World) (e : Ending) (w' : World) : Prop :=
  ∃ (v : Value) (ps : List ByteArray), e = .returned v ∧ w'.ownsRow w.heap.size 9 1 v ps.length (ps.map Value.string) ∧ ps.map (fun p => p.data.toList) = L ∧ Only No w w'
theorem keep_map (ps : List ByteArray) : (ps.filter keepB).map (fun p => p.data.toList) = (ps.map (fun p => p.data.toList)).filter fun p => !p.isEmpty := by
  induction ps with
  | nil => rfl
  | cons p ps ih =>
    have : keepB p = !p.data.toList.isEmpty := by unfold keepB; rw [ByteArray.toList_eq]
    simp only [List.filter_cons, List.map_cons, this]
    split <;> simp [ih]

theorem ownsRow_down {w : World} {base base' e size n : Nat} {v : Value} {xs : List Value} (h : w.ownsRow base e size v n xs) (hb : base' ≤ base) : w.ownsRow base' e size v n xs := by
  obtain ⟨h1, h2⟩ := h
  refine ⟨h1, ?_⟩
  rcases h2 with h2 | ⟨g, cap, cur, hv, hg, r⟩
  · exact .inl h2
  · exact .inr ⟨g, cap, cur, hv, by omega, r⟩
theorem words_c (s : ByteArray) (w : World) (hs : s.size ≤ 900000000) : Calls Try.prog 29 #[.string s] w (TextsR (wordsM s.data.toList) w) := by
  have hI : OutBox (w.alloc (.cells #[.slice none 0 0] 75)) w.heap.size (([] : List ByteArray).filter keepB) w :=
    ⟨⟨_, Blk.new _ _ _, (Bun.nil _ _).cons_nil _ _⟩, (Only.refl _ _).alloc _, Nat.le_refl _⟩
  have hcut := cut_c s 58 59 #[] #[.pointer (some ⟨w.heap.size, 0, none⟩)] blankB _ w1_marks (w2_puts w.heap.size w) _ hI hs
  have HC := Lib.hid hcut
  clear hcut hI
  go_enter Try.func29, Try.ntmps29
  go_wp2_with fail
  refine HC.out.mono ?_
  rintro e w' ⟨rfl, ps, hps, hB⟩
  obtain ⟨v, hb, hBun⟩ := hB.box
  obtain ⟨a, cap, rfl⟩ := bun_form hBun 0 rfl
  have hc := hb.cell 0 _ rfl
  have hf := hb.free 0
  have hW : TextsR (wordsM s.data.toList) w (.returned (.slice a (ps.filter keepB).length cap)) (w'.setCell ⟨w.heap.size, 0, none⟩ (.slice a (ps.filter keepB).length cap)) := by
    refine ⟨_, ps.filter keepB, rfl, ?_, ?_, hB.only.setCell _ _ (fun hk => absurd hk (Nat.lt_irrefl _))⟩
    · have := hBun.only (w' := w'.setCell ⟨w.heap.size, 0, none⟩ (.slice a (ps.filter keepB).length cap)) (S := (· = w.heap.size)) ((Only.refl _ _).set1 0 _) (fun k hk e => by omega)
      exact ownsRow_down (this.owns 0 _ rfl) (by omega)
    · rw [keep_map, hps]; rfl
  have HW := Lib.hid hW
  have hc2 := (hb.set 0 (.slice a (ps.filter keepB).length cap)).cell 0 _ rfl
  clear hW
  go_wp2_with fail
  exact bodyPost_ret (v := .slice a (ps.filter keepB).length cap) (by simp [results, Try.results29, go_sem, hc2]) rfl HW.out
end Go.Proofs.Ytlilhdkaaendlaa
