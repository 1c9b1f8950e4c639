/- What the statements of chapter 01 have in common: the chapter's examples come as they should. -/
import Derived.Test.YtpegbplppfbomaaWords2
import Derived.Test.YtpegbplppfbomaaParse
namespace Go.Proofs.Ytpegbplppfbomaa
open Go.RowKit

theorem alive_parse (w : World) : Calls Try.prog 20 #[.string ⟨#[48, 55]⟩, .int .i64 0, .int .i64 99] w fun e w' => e = .returned (.tuple #[.int .i64 0, .int .i64 3]) ∧ ∃ nd, w.drewN nd = w' := by
  have h := parse_c ⟨#[48, 55]⟩ 0 99 w (by decide)
  have e : parseM (⟨#[48, 55]⟩ : ByteArray).data.toList 0 99 = (0, 3) := by decide
  rw [e] at h
  exact h
theorem alive_print (w : World) : Calls Try.prog 22 #[.int .i64 (-7)] w fun e w' => e = .returned (.string ⟨#[45, 55]⟩) ∧ Only No w w' := by
  have h := print_c (-7) w (by omega) (by omega)
  have e : printM (-7) = [45, 55] := by
    unfold printM
    rw [if_pos (by omega)]
    show 45 :: digs 7 = _
    rw [digs_lt (by omega)]
    rfl
  rw [e] at h
  exact h
theorem alive_words (w : World) : Calls Try.prog 58 #[.string ⟨#[32, 32, 97, 32, 98, 99]⟩] w fun e w' => ∃ g cap, e = .returned (.slice (some ⟨g, 0, none⟩) 2 cap) ∧ w'.cell? ⟨g, 1, none⟩ = some (.string ⟨#[98, 99]⟩) ∧ 2 ≤ cap ∧ g < w'.heap.size ∧ Only No w w' := by
  refine (words_c ⟨#[32, 32, 97, 32, 98, 99]⟩ w (by decide)).mono ?_
  rintro e w' ⟨v, ps, rfl, hrow, hps, hO⟩
  have e : wordsM (⟨#[32, 32, 97, 32, 98, 99]⟩ : ByteArray).data.toList = [[97], [98, 99]] := by decide
  rw [e] at hps
  have hl : ps.length = 2 := by simpa using congrArg List.length hps
  match ps, hl, hps, hrow with
  | [p0, p1], _, hps, hrow =>
    simp at hps
    have h1 : p1 = ⟨#[98, 99]⟩ := by
      apply ByteArray.ext
      apply Array.toList_inj.1
      rw [hps.2]
    obtain ⟨g, cap, rfl, hcap, hg, hcell⟩ := row_cell hrow (by simp)
    refine ⟨g, cap, rfl, ?_, hcap, hg, hO⟩
    rw [← h1]
    exact hcell 1 _ rfl

set_option maxRecDepth 100000 in
theorem alive01_c (w : World) : Calls Try.prog 19 #[] w fun e w' => e = .returned (.bool true) ∧ Only No w w' := by
  go_enter Try.func19, Try.ntmps19
  go_wp2_with fail
  refine (alive_parse _).mono ?_
  rintro e w1 ⟨rfl, ⟨nd, rfl⟩⟩
  go_wp2_with fail
  refine (alive_words _).mono ?_
  rintro e w2 ⟨g, cap, rfl, hc, hcap, hg, hO⟩
  go_wp2_with fail
  refine (alive_print _).mono ?_
  rintro e w3 ⟨rfl, hO3⟩
  have hc3 := (hO3.cell (p := ⟨g, 1, none⟩) hg id).trans hc
  go_wp2_with fail
  go_ret
  exact ⟨rfl, ((Only.refl _ _).drewN nd |>.trans hO).trans hO3⟩
end Go.Proofs.Ytpegbplppfbomaa
