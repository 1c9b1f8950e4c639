/- Pairs in memory; the law's pairs. No statement is proved here. -/
import Derived.Test.YtpegbplppfbomaaGlists
import Derived.Test.YtpegbplppfbomaaRead
namespace Go.Proofs.Ytpegbplppfbomaa
open Go.RowKit Go.Maps

def cells2 (l : List (Nat × Nat)) : List Value := l.flatMap fun x => [.int .u8 (x.1 : Int), .int .u8 (x.2 : Int)]
theorem cells2_len (l : List (Nat × Nat)) : (cells2 l).length = l.length * 2 := by
  induction l with
  | nil => rfl
  | cons x l ih => simp only [cells2, List.flatMap_cons, List.length_append] at *; simp at *; omega
theorem cells2_snoc (l : List (Nat × Nat)) (x : Nat × Nat) : cells2 (l ++ [x]) = cells2 l ++ [.int .u8 (x.1 : Int), .int .u8 (x.2 : Int)] := by simp [cells2]
theorem cells2_get {l : List (Nat × Nat)} {i : Nat} (h : i < l.length) : (cells2 l)[i * 2]? = some (.int .u8 (l[i].1 : Int)) ∧ (cells2 l)[i * 2 + 1]? = some (.int .u8 (l[i].2 : Int)) := by
  induction l generalizing i with
  | nil => simp at h
  | cons x l ih =>
    cases i with
    | zero => simp [cells2]
    | succ i =>
      have := ih (i := i) (by simpa using h)
      have e : cells2 (x :: l) = [.int .u8 (x.1 : Int), .int .u8 (x.2 : Int)] ++ cells2 l := rfl
      rw [e, List.getElem?_append_right (by simp; omega), List.getElem?_append_right (by simp; omega)]
      simp only [List.length_cons, List.length_nil, List.getElem_cons_succ]
      rw [show (i + 1) * 2 - (0 + 1 + 1) = i * 2 by omega, show (i + 1) * 2 + 1 - (0 + 1 + 1) = i * 2 + 1 by omega]
      exact this
/-- The value v is a slice of pairs that read as l. -/
structure Sees2 (w : World) (v : Value) (l : List (Nat × Nat)) : Prop where
  form : ∃ (a : Option Addr) (cap : Nat), v = .slice a l.length cap ∧ l.length ≤ cap ∧ (0 < l.length → ∃ b off, a = some ⟨b, off, none⟩ ∧ b < w.heap.size ∧ ∀ i (h : i < l.length),
    w.cell? ⟨b, off + i * 2, none⟩ = some (.int .u8 (l[i].1 : Int)) ∧ w.cell? ⟨b, off + i * 2 + 1, none⟩ = some (.int .u8 (l[i].2 : Int)))
theorem Sees2.only {S : Nat → Prop} {w w' : World} {v : Value} {l : List (Nat × Nat)} (h : Sees2 w v l) (ho : Only S w w') (hs : ∀ b, v.ownBlock = some b → ¬ S b) : Sees2 w' v l := by
  obtain ⟨a, cap, rfl, hc, hf⟩ := h.form
  refine ⟨a, cap, rfl, hc, fun hp => ?_⟩
  obtain ⟨b, off, rfl, hb, hcell⟩ := hf hp
  exact ⟨b, off, rfl, Nat.lt_of_lt_of_le hb ho.size, fun i hi => ⟨(ho.cell (p := ⟨b, off + i * 2, none⟩) hb (hs b rfl)).trans (hcell i hi).1, (ho.cell (p := ⟨b, off + i * 2 + 1, none⟩) hb (hs b rfl)).trans (hcell i hi).2⟩⟩
theorem Sees2.no {w w' : World} {v : Value} {l : List (Nat × Nat)} (h : Sees2 w v l) (ho : Only No w w') : Sees2 w' v l := h.only ho (fun _ _ h => h)
theorem Sees2.of_row {w : World} {base e n : Nat} {v : Value} {l : List (Nat × Nat)} (h : w.ownsRow base e 2 v n (cells2 l)) : Sees2 w v l := by
  have hl : l.length = n := by have := h.1; rw [cells2_len] at this; omega
  obtain ⟨a, cap, hv, hc⟩ := row_len h
  refine ⟨a, cap, by rw [hl]; exact hv, by omega, fun hp => ?_⟩
  obtain ⟨g, cap', hv', -, hg, hcell⟩ := row_cell h (by omega)
  rw [hv'] at hv
  simp at hv
  refine ⟨g, 0, hv.1.symm, hg, fun i hi => ?_⟩
  rw [Nat.zero_add]
  exact ⟨hcell _ _ (cells2_get hi).1, hcell _ _ (cells2_get hi).2⟩
theorem Sees2.nil (w : World) (a : Option Addr) (cap : Nat) : Sees2 w (.slice a 0 cap) [] := ⟨a, cap, rfl, by simp, fun h => absurd h (by simp)⟩

theorem info_pair : (Try.prog.info? 89).map (fun i => (i.zero, i.size, i.bytes)) = some (some (.agg #[.int .u8 0, .int .u8 0]), 2, 2) := by kernel_rfl

set_option maxRecDepth 100000 in
theorem gpairs_c (v : Value) (l : List (Nat × Nat)) (w : World) (hv : Sees2 w v l) (hl : l.length ≤ 1000) :
    Calls Try.prog 38 #[v] w fun e w' => ∃ v', e = .returned v' ∧ w'.ownsRow w.heap.size 89 2 v' l.length (cells2 l) ∧ Only No w w' := by
  obtain ⟨a, cap, rfl, -, hcells⟩ := hv.form
  obtain ⟨i0, hi, hz0, hz1, hz2⟩ := info_parts info_pair
  go_enter Try.func38, Try.ntmps38
  go_wp2_with fail
  go_loopg [3, 4] (l.length : Nat) (fun g v3 v4 wr => ∃ k : Nat, k + g = l.length ∧ v4 = .int .i64 k ∧ Bun wr w.heap.size [(89, 2, v3, k, cells2 (l.take k))] ∧ Only No w wr)
  case atStart => exact ⟨0, by omega, rfl, (Bun.nil _ _).cons_nil _ _, Only.refl _ _⟩
  case round =>
    obtain ⟨k, hk, rfl, hB, hO⟩ := hrel
    obtain ⟨a9, c9, rfl⟩ := bun_is hB 0 rfl
    have hz := hO.size
    by_cases hlt : k < l.length
    · obtain ⟨b, off, rfl, hb, hcell⟩ := hcells (by omega)
      have c1 := (hO.cell (p := ⟨b, off + k * 2, none⟩) hb id).trans (hcell k hlt).1
      have c2 := (hO.cell (p := ⟨b, off + k * 2 + 1, none⟩) hb id).trans (hcell k hlt).2
      have hs : cells2 (l.take (k + 1)) = cells2 (l.take k) ++ [.int .u8 (l[k].1 : Int), .int .u8 (l[k].2 : Int)] := by rw [List.take_succ_eq_append_getElem hlt, cells2_snoc]
      have HS := Lib.hid hs
      clear hs hcells hcell
      generalize l[k] = x at *
      go_wp2_with (at_builtin; go_must (refine wpList_append1 rfl (.tmp 11) (.tmp 16) 69 rfl w.heap.size 89 i0 (.agg #[.int .u8 0, .int .u8 0]) 2 2 Try.underlying69 hi hz0 hz1 hz2 rfl (by decide) _ hB 0 _ _ _ rfl rfl [.int .u8 (x.1 : Int), .int .u8 (x.2 : Int)] _ wr.heap.size (by simp) rfl rfl (by simp [Value.oneCell']) (by unfold maxLen; omega) (by omega) (by omega) ?_); intro g cap1 w3 hB3 hO3)
      go_roundg (l.length - (k + 1))
      case measure => omega
      case rel => exact ⟨k + 1, by omega, by go_num, by rw [HS.out]; simpa using hB3, hO.then hO3 (fun i hi e => absurd e (by omega))⟩
    · have hke : k = l.length := by omega
      subst hke
      rw [List.take_length] at hB
      go_wp2_with fail
      go_ret
      exact ⟨_, rfl, hB.owns 0 _ rfl, hO⟩
end Go.Proofs.Ytpegbplppfbomaa
