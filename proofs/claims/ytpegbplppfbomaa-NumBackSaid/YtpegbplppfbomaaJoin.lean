/- num.Join and the reference's Join: the walks. No statement is proved here. -/
import Derived.Test.YtpegbplppfbomaaSplit
import Derived.Test.YtpegbplppfbomaaRPrint
namespace Go.Proofs.Ytpegbplppfbomaa
open Go.RowKit

/-- Texts with blanks between. -/
def joinM : List (List UInt8) → List UInt8
  | [] => []
  | p :: ps => p ++ ps.flatMap fun q => 32 :: q
theorem joinM_snoc (l : List (List UInt8)) (q : List UInt8) : joinM (l ++ [q]) = if l = [] then q else joinM l ++ 32 :: q := by
  cases l with
  | nil => simp [joinM]
  | cons p ps => simp [joinM]
theorem joinM_len (l : List (List UInt8)) (m : Nat) (h : ∀ p ∈ l, p.length ≤ m) : (joinM l).length ≤ (m + 1) * l.length := by
  cases l with
  | nil => simp [joinM]
  | cons p ps =>
    have e : ∀ ps : List (List UInt8), (∀ p ∈ ps, p.length ≤ m) → (ps.flatMap fun q => (32 : UInt8) :: q).length ≤ (m + 1) * ps.length := by
      intro ps
      induction ps with
      | nil => simp
      | cons a ps ih =>
        intro h
        have h1 := h a (List.mem_cons_self ..)
        have h2 := ih (fun p hp => h p (List.mem_cons_of_mem _ hp))
        simp only [List.flatMap_cons, List.length_append, List.length_cons]
        rw [Nat.mul_succ]
        omega
    have h1 := h p (List.mem_cons_self ..)
    have h2 := e ps (fun p hp => h p (List.mem_cons_of_mem _ hp))
    simp only [joinM, List.length_append, List.length_cons]
    rw [Nat.mul_succ]
    omega

/-- The text of the first k pieces. -/
def JoinS (L : List (List UInt8)) (k : Nat) (st : ByteArray) : Prop := st = ⟨(joinM (L.take k)).toArray⟩ ∧ st.size ≤ 1001 * k
theorem JoinS.first {L : List (List UInt8)} (hL : ∀ p ∈ L, p.length ≤ 1000) (p : ByteArray) (h0 : L[0]? = some p.data.toList) (st : ByteArray) (h : JoinS L 0 st) : JoinS L 1 (st ++ p) := by
  obtain ⟨rfl, -⟩ := h
  cases L with
  | nil => simp at h0
  | cons a L =>
    simp at h0
    have hp : p = ⟨a.toArray⟩ := by apply ByteArray.ext; apply Array.toList_inj.1; rw [h0]
    have hs : a.length ≤ 1000 := hL a (List.mem_cons_self ..)
    refine ⟨?_, ?_⟩
    · rw [hp, bytes_join]; simp [joinM]
    · rw [hp, bytes_join]; simp [joinM, ByteArray.size]; omega
theorem JoinS.more {L : List (List UInt8)} (hL : ∀ p ∈ L, p.length ≤ 1000) (k : Nat) (hk : 0 < k) (p : ByteArray) (h0 : L[k]? = some p.data.toList) (st : ByteArray) (h : JoinS L k st) : JoinS L (k + 1) (st ++ ⟨#[32]⟩ ++ p) := by
  obtain ⟨rfl, -⟩ := h
  obtain ⟨hlt, he⟩ := List.getElem?_eq_some_iff.1 h0
  have hp : p = ⟨(L[k]).toArray⟩ := by apply ByteArray.ext; apply Array.toList_inj.1; rw [he]
  have hne : L.take k ≠ [] := by
    intro e
    have := congrArg List.length e
    rw [List.length_take, List.length_nil] at this
    omega
  have e1 : joinM (L.take (k + 1)) = joinM (L.take k) ++ 32 :: L[k] := by
    rw [List.take_succ_eq_append_getElem hlt, joinM_snoc, if_neg hne]
  have hb : (⟨(joinM (L.take k)).toArray⟩ : ByteArray) ++ ⟨#[32]⟩ ++ p = ⟨(joinM (L.take (k + 1))).toArray⟩ := by
    rw [hp, e1]
    have := bytes_join (joinM (L.take k)) [32]
    have h2 := bytes_join (joinM (L.take k) ++ [32]) L[k]
    rw [← this] at h2
    rw [show (⟨#[32]⟩ : ByteArray) = ⟨[32].toArray⟩ from rfl, h2]
    simp
  refine ⟨hb, ?_⟩
  rw [hb]
  have := joinM_len (L.take (k + 1)) 1000 (fun p hp => hL p (List.mem_of_mem_take hp))
  rw [List.length_take] at this
  show (joinM (L.take (k + 1))).length ≤ _
  have h3 : min (k + 1) L.length ≤ k + 1 := Nat.min_le_left _ _
  have := Nat.le_trans this (Nat.mul_le_mul_left 1001 h3)
  exact this

set_option maxRecDepth 100000 in
theorem join_c (v : Value) (ps : List ByteArray) (w : World) (hv : Sees w v (ps.map Value.string)) (hn : ps.length ≤ 1000000) (hL : ∀ p ∈ ps.map (fun p => p.data.toList), p.length ≤ 1000) :
    Calls Try.prog 60 #[v] w fun e w' => e = .returned (.string ⟨(joinM (ps.map fun p => p.data.toList)).toArray⟩) ∧ w = w' := by
  obtain ⟨a, cap, rfl, -, hcells⟩ := hv.form
  simp only [List.length_map] at hcells ⊢
  have HL := Lib.hid hL
  clear hL hv
  go_enter Try.func60, Try.ntmps60
  go_wp2_with fail
  go_loopg [2, 7] (ps.length : Nat) (fun g v2 v7 wr => ∃ (k : Nat) (st : ByteArray), k + g = ps.length ∧ v7 = .int .i64 k ∧ v2 = .string st ∧ JoinS (ps.map fun p => p.data.toList) k st ∧ w = wr)
  case atStart => exact ⟨0, ⟨#[]⟩, by omega, rfl, rfl, ⟨rfl, by simp [ByteArray.size]⟩, rfl⟩
  case round =>
    obtain ⟨k, st, hk, rfl, rfl, hJ, rfl⟩ := hrel
    have hst : st.size ≤ 1001 * 1000000 := by have := hJ.2; omega
    by_cases hlt : k < ps.length
    · obtain ⟨b, off, rfl, hb, hcell⟩ := hcells (by omega)
      have c1 := hcell k _ (texts_get hlt)
      have hg : (ps.map fun p => p.data.toList)[k]? = some ps[k].data.toList := by simp [hlt]
      have hsz : ps[k].size ≤ 1000 := HL.out _ (List.mem_of_getElem? hg)
      clear hcells hcell
      generalize ps[k] = p at *
      rcases Nat.eq_zero_or_pos k with hz | hpos
      · have HN := Lib.hid (show JoinS (ps.map fun p => p.data.toList) (k + 1) (st ++ p) by subst hz; exact hJ.first HL.out p hg st)
        have hk0 : (k : Int) ≤ 0 := by omega
        clear hJ hg hz
        go_wp2_with fail
        go_roundg (ps.length - (k + 1))
        case measure => omega
        case rel => exact ⟨k + 1, _, by omega, by go_num, rfl, HN.out, rfl⟩
      · have HN := Lib.hid (hJ.more HL.out k hpos p hg st)
        have hk0 : (0 : Int) < (k : Int) := by omega
        have hz : (⟨#[32]⟩ : ByteArray).size = 1 := rfl
        clear hJ hg
        go_wp2_with fail
        go_roundg (ps.length - (k + 1))
        case measure => omega
        case rel => exact ⟨k + 1, _, by omega, by go_num, rfl, HN.out, rfl⟩
    · have hke : k = ps.length := by omega
      have hfin := hJ.1
      rw [hke, List.take_of_length_le (by simp)] at hfin
      have HF := Lib.hid hfin
      clear hfin hJ
      go_wp2_with fail
      go_ret
      exact ⟨ret_eq (by show Value.string st = _; rw [HF.out]), rfl⟩
end Go.Proofs.Ytpegbplppfbomaa
