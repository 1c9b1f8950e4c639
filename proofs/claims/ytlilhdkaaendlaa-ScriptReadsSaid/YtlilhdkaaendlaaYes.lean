/- A word that is yes or no: the program's and the document's. No statement is proved here. -/
import Derived.Test.YtlilhdkaaendlaaReaders
namespace Go.Proofs.Ytlilhdkaaendlaa
open Go.RowKit

theorem fat_err {w : World} {b rb : Nat} {e : Int} {l : List ByteArray} (h : FAt w b rb e l) : w.cell? ⟨b, 1, none⟩ = some (.int .i64 e) ∧ w.frozen? ⟨b, 1, none⟩ = false := by
  obtain ⟨v, q1, -⟩ := h
  exact ⟨q1.cell 1 _ rfl, q1.free 1⟩
def ynL : List ByteArray := [⟨#[110, 111]⟩, ⟨#[121, 101, 115]⟩]
def yesM (p : ByteArray) : Bool := decide (p.data.toList = [121, 101, 115])
def yesE (p : ByteArray) : Int := if p.data.toList = [121, 101, 115] ∨ p.data.toList = [110, 111] then 0 else 3
theorem idx_yn (p : ByteArray) : idx ynL p = if p.data.toList = [110, 111] then 0 else if p.data.toList = [121, 101, 115] then 1 else -1 := by
  obtain ⟨⟨l⟩⟩ := p
  unfold idx Lib.idxOfS ynL
  simp only [Lib.idxFromS, ByteArray.mk.injEq, Array.mk.injEq]
  by_cases h1 : l = [110, 111]
  · rw [if_pos h1.symm, if_pos h1]; rfl
  rw [if_neg (fun e => h1 e.symm), if_neg h1]
  by_cases h2 : l = [121, 101, 115]
  · rw [if_pos h2.symm, if_pos h2]; rfl
  rw [if_neg (fun e => h2 e.symm), if_neg h2]
theorem idx_yes (p : ByteArray) : (idx ynL p == 1) = yesM p ∧ idxErr ynL p = yesE p := by
  unfold idxErr yesM yesE
  rw [idx_yn]
  by_cases h1 : p.data.toList = [110, 111]
  · have e2 : (if p.data.toList = [121, 101, 115] ∨ p.data.toList = [110, 111] then (0 : Int) else 3) = 0 := if_pos (.inr h1)
    rw [e2, if_pos h1, h1]
    exact ⟨rfl, rfl⟩
  by_cases h2 : p.data.toList = [121, 101, 115]
  · have e2 : (if p.data.toList = [121, 101, 115] ∨ p.data.toList = [110, 111] then (0 : Int) else 3) = 0 := if_pos (.inl h2)
    rw [e2, if_neg h1, if_pos h2, h2]
    exact ⟨rfl, rfl⟩
  have e2 : (if p.data.toList = [121, 101, 115] ∨ p.data.toList = [110, 111] then (0 : Int) else 3) = 3 := if_neg (fun h => h.elim h2 h1)
  rw [e2, if_neg h1, if_neg h2, decide_eq_false h2]
  exact ⟨rfl, rfl⟩
set_option maxRecDepth 100000 in
theorem answer_c (b rb cb : Nat) (e : Int) (p : ByteArray) (r : List ByteArray) (w : World) (h : WAt w b rb e (p :: r)) (hc : w.cell? ⟨cb, 0, none⟩ = some (.pointer (some ⟨b, 0, none⟩))) :
    Calls Try.prog 103 #[.pointer (some ⟨cb, 0, none⟩)] w fun x w' => x = .returned (.bool (yesM p)) ∧ WAt w' b rb (keepE e (yesE p)) r ∧ Only (· = b) w w' := by
  obtain ⟨hlt, hlr, hrne⟩ := h.lt
  obtain ⟨hi1, hi2⟩ := idx_yes p
  rw [← hi1, ← hi2]
  have hB := Blk.new w #[.string ⟨#[110, 111]⟩, .string ⟨#[121, 101, 115]⟩] 9
  have hO1 : Only No w (w.alloc (.cells #[.string ⟨#[110, 111]⟩, .string ⟨#[121, 101, 115]⟩] 9)) := (Only.refl _ _).alloc _
  have hv : Sees (w.alloc (.cells #[.string ⟨#[110, 111]⟩, .string ⟨#[121, 101, 115]⟩] 9)) (.slice (some ⟨w.heap.size, 0, none⟩) 2 2) (txs ynL) := ⟨⟨_, 2, rfl, by simp [txs, ynL], fun _ => ⟨_, 0, rfl, hB.lt, fun j u hu => hB.cell _ u (by simpa [txs, ynL] using hu)⟩⟩⟩
  have HC := Lib.hid (choice_c b rb e p r _ ynL _ (h.only hO1) hv (fun k hk ek => by simp [Value.ownBlock] at hk; omega) (by decide))
  have HO := Lib.hid hO1
  obtain ⟨n, hn⟩ : ∃ n, n = idx ynL p := ⟨_, rfl⟩
  rw [← hn] at HC ⊢
  clear hi1 hi2 hn h hv hB hO1
  go_enter Try.func103, Try.ntmps103
  go_wp2_with fail
  refine HC.out.mono ?_
  rintro x w1 ⟨rfl, hW, hO⟩
  go_wp2_with fail
  go_ret
  exact ⟨rfl, hW, HO.out.of_no.trans hO⟩
set_option maxRecDepth 100000 in
set_option maxHeartbeats 800000 in
theorem ryes_c (b rb : Nat) (e : Int) (p : ByteArray) (r : List ByteArray) (w : World) (h : FAt w b rb e (p :: r)) :
    Calls Try.prog 34 #[.pointer (some ⟨b, 0, none⟩)] w fun x w' => x = .returned (.bool (yesM p)) ∧ FAt w' b rb (keepE e (yesE p)) r ∧ Only (· = b) w w' := by
  have HN := Lib.hid (rnext_c b rb e p r w h)
  clear h
  unfold yesM yesE
  rw [← ByteArray.toList_eq]
  by_cases h1 : p.toList = [121, 101, 115]
  · have q1 : (p.toList == [121, 101, 115]) = true := beq_iff_eq.2 h1
    have hk : keepE e (if p.toList = [121, 101, 115] ∨ p.toList = [110, 111] then 0 else 3) = e := by rw [if_pos (.inl h1), keepE_zero]
    rw [hk, decide_eq_true h1]
    clear hk h1
    go_enter Try.func34, Try.ntmps34
    go_wp2_with fail
    refine HN.out.mono ?_
    rintro x w1 ⟨rfl, hW, hO⟩
    go_wp2_with fail
    go_ret
    exact ⟨rfl, hW, hO⟩
  have q1 : (p.toList == [121, 101, 115]) = false := beq_eq_false_iff_ne.2 h1
  rw [decide_eq_false h1]
  by_cases h2 : p.toList = [110, 111]
  · have q2 : (p.toList == [110, 111]) = true := beq_iff_eq.2 h2
    have hk : keepE e (if p.toList = [121, 101, 115] ∨ p.toList = [110, 111] then 0 else 3) = e := by rw [if_pos (.inr h2), keepE_zero]
    rw [hk]
    clear hk h1 h2
    go_enter Try.func34, Try.ntmps34
    go_wp2_with fail
    refine HN.out.mono ?_
    rintro x w1 ⟨rfl, hW, hO⟩
    go_wp2_with fail
    go_ret
    exact ⟨rfl, hW, hO⟩
  have q2 : (p.toList == [110, 111]) = false := beq_eq_false_iff_ne.2 h2
  rw [if_neg (by rintro (h | h); exact h1 h; exact h2 h)]
  have hk : (e = 0 ∧ keepE e 3 = 3) ∨ ((e == 0) = false ∧ keepE e 3 = e) := by
    by_cases he : e = 0
    · exact .inl ⟨he, if_pos he⟩
    · exact .inr ⟨beq_eq_false_iff_ne.2 he, if_neg he⟩
  rcases hk with ⟨he, hk⟩ | ⟨he, hk⟩
  · rw [hk]
    clear hk h1 h2
    subst he
    go_enter Try.func34, Try.ntmps34
    go_wp2_with fail
    refine HN.out.mono ?_
    rintro x w1 ⟨rfl, hW, hO⟩
    obtain ⟨ce, fe⟩ := fat_err hW
    have HW := Lib.hid (hW.keep 3)
    clear hW
    go_wp2_with fail
    go_ret
    exact ⟨rfl, HW.out, hO.set1 1 _⟩
  · rw [hk]
    clear hk h1 h2
    go_enter Try.func34, Try.ntmps34
    go_wp2_with fail
    refine HN.out.mono ?_
    rintro x w1 ⟨rfl, hW, hO⟩
    obtain ⟨ce, fe⟩ := fat_err hW
    go_wp2_with fail
    go_ret
    exact ⟨rfl, hW, hO⟩
set_option maxRecDepth 100000 in
/-- wants' closure for a line that fits nowhere: ErrForm is kept. -/
theorem wrong_c (b rb : Nat) (e : Int) (l : List ByteArray) (w : World) (h : WAt w b rb e l) :
    Calls Try.prog 87 #[.pointer (some ⟨b, 0, none⟩)] w fun x w' => x = .returned (.tuple #[]) ∧ WAt w' b rb (keepE e 3) l ∧ Only (· = b) w w' := by
  have HK := Lib.hid (keep_c b rb e 3 l w h)
  clear h
  go_enter Try.func87, Try.ntmps87
  go_wp2_with fail
  refine HK.out.mono ?_
  rintro x w1 ⟨rfl, hW, hO⟩
  go_wp2_with fail
  go_end0
  exact ⟨rfl, hW, hO⟩
end Go.Proofs.Ytlilhdkaaendlaa
