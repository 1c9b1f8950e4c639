/- What a line says lies within an event's types; texts that are alike. No statement is proved here. -/
import Derived.Test.YtlilhdkaaendlaaLinesA
namespace Go.Proofs.Ytlilhdkaaendlaa
open Go.RowKit

theorem zi : (-9223372036854775808 : Int) ≤ 0 ∧ (0 : Int) ≤ 9223372036854775807 := by decide
theorem z8 : (0 : Int) ≤ 0 ∧ (0 : Int) ≤ 255 := by decide
theorem z16 : (0 : Int) ≤ 0 ∧ (0 : Int) ≤ 65535 := by decide
theorem zd : ([] : List UInt8).length ≤ 1000 := by decide
theorem numE_bd (m : Int) (hm : 0 ≤ m) (p : ByteArray) : 0 ≤ (numE m p).1 ∧ (numE m p).1 ≤ m := parse_bd p.data.toList m hm
theorem in0 : Ev.In {} := ⟨Ev.ok0, by decide, by decide, by decide, by decide, by decide, by decide, by decide⟩
theorem textN_len (p : ByteArray) : (textN p).1.length = 8 := by unfold textN; split; rfl; exact ofN_len _
theorem doM_in (a q c : ByteArray) (r : List ByteArray) : (doM a q c r).1.In := by
  have h1 := numE_bd 255 (by omega) a
  have h2 := numE_bd 65535 (by omega) c
  unfold doM
  split
  · rename_i i n _
    have h3 := numE_bd 4294967295 (by omega) n
    exact ⟨⟨ofN_len _, rfl⟩, zi, zi, ⟨by show _ ≤ (numE 4294967295 n).1; omega, by show (numE 4294967295 n).1 ≤ _; omega⟩, h1, z8, h2, zd⟩
  · exact ⟨⟨ofN_len _, rfl⟩, zi, zi, zi, h1, z8, h2, zd⟩
  · rename_i i n _
    have h3 := numE_bd 4294967295 (by omega) n
    exact ⟨⟨ofN_len _, rfl⟩, zi, zi, ⟨by show _ ≤ (numE 4294967295 n).1; omega, by show (numE 4294967295 n).1 ≤ _; omega⟩, h1, z8, h2, zd⟩
  · exact ⟨⟨rfl, textN_len _⟩, zi, zi, zi, h1, z8, h2, zd⟩
  · exact ⟨⟨rfl, rfl⟩, zi, zi, zi, h1, z8, h2, zd⟩
  · exact in0
theorem rdM_in (L : List ByteArray) (hL : ∀ q ∈ L, q.size ≤ 1000) : (rdM L).1.In := by
  unfold rdM
  split
  · exact in0
  · rename_i p r
    split
    · exact doM_in _ _ _ _
    · rename_i a b _
      exact ⟨⟨rfl, rfl⟩, zi, zi, zi, numE_bd 255 (by omega) a, numE_bd 255 (by omega) b, z16, zd⟩
    · rename_i a b m _
      have hm := modeN_bd m
      exact ⟨⟨rfl, rfl⟩, ⟨by show _ ≤ 1 + idx modeL m; omega, by show 1 + idx modeL m ≤ _; omega⟩, zi, zi, numE_bd 255 (by omega) a, numE_bd 255 (by omega) b, z16, zd⟩
    · rename_i a _
      exact ⟨⟨rfl, rfl⟩, zi, zi, zi, numE_bd 255 (by omega) a, z8, z16, zd⟩
    all_goals first
      | (rename_i a _
         have h1 := numE_bd 2147483647 (by omega) a
         exact ⟨⟨rfl, rfl⟩, zi, ⟨by show _ ≤ (numE 2147483647 a).1; omega, by show (numE 2147483647 a).1 ≤ _; omega⟩, zi, z8, z8, z16, zd⟩)
      | (rename_i a n d _
         have h1 := numE_bd 2147483647 (by omega) a
         have h2 := numE_bd 2147483647 (by omega) n
         exact ⟨⟨rfl, rfl⟩, ⟨by show _ ≤ (numE 2147483647 n).1; omega, by show (numE 2147483647 n).1 ≤ _; omega⟩, ⟨by show _ ≤ (numE 2147483647 a).1; omega, by show (numE 2147483647 a).1 ≤ _; omega⟩, zi, z8, z8, z16, Nat.le_of_ble_eq_true rfl⟩)
      | (rename_i a d _
         have h1 := unhex_len d.data.toList
         have h2 : d.size ≤ 1000 := hL d (by simp)
         have h3 : d.data.toList.length = d.size := rfl
         exact ⟨⟨rfl, rfl⟩, zi, zi, zi, z8, numE_bd 255 (by omega) a, z16, by show (unhexM d.data.toList).1.length ≤ 1000; omega⟩)
      | exact in0
theorem evM_in (s : ByteArray) (hs : s.size ≤ 1000) : (evM (lineW s)).1.In := by
  have hl := (lineW_le s).2
  unfold evM
  split
  · exact in0
  · split
    · exact rdM_in _ (fun q hq => Nat.le_trans (hl q hq) hs)
    · exact in0
set_option maxRecDepth 100000 in
set_option maxHeartbeats 1600000 in
theorem rtexts_c (v1 v2 : Value) (l : List ByteArray) (w : World) (h1 : Sees w v1 (txs l)) (h2 : Sees w v2 (txs l)) (hl : l.length ≤ 1000000) :
    Calls Try.prog 26 #[v1, v2] w fun x w' => x = .returned (.bool true) ∧ Only No w w' := by
  obtain ⟨a, cap, rfl, -, hf1⟩ := h1.form
  obtain ⟨b, cap2, rfl, -, hf2⟩ := h2.form
  have hln : (txs l).length = l.length := by simp [txs]
  rw [hln] at hf1 hf2 ⊢
  have HC := Lib.hid (fun (i : Nat) (hi : i < l.length) => (show ∃ g1 o1 g2 o2, a = some ⟨g1, o1, none⟩ ∧ b = some ⟨g2, o2, none⟩ ∧ w.cell? ⟨g1, o1 + i, none⟩ = some (.string l[i]) ∧ w.cell? ⟨g2, o2 + i, none⟩ = some (.string l[i]) from by
    obtain ⟨g1, o1, q1, -, c1⟩ := hf1 (by omega)
    obtain ⟨g2, o2, q2, -, c2⟩ := hf2 (by omega)
    have hg : (txs l)[i]? = some (.string l[i]) := by unfold txs; rw [List.getElem?_map, List.getElem?_eq_getElem hi]; rfl
    exact ⟨g1, o1, g2, o2, q1, q2, c1 i _ hg, c2 i _ hg⟩))
  clear h1 h2 hf1 hf2 hln
  go_enter Try.func26, Try.ntmps26
  go_wp2_with fail
  go_loopw [5] (fun v5 wr => ∃ i : Nat, i ≤ l.length ∧ v5 = .int .i64 i ∧ ∃ nd, wr = w.drewN nd) (fun v5 _ => l.length - (intOf v5).toNat)
  case atStart => exact ⟨0, by omega, rfl, 0, rfl⟩
  case round =>
    obtain ⟨i, hi, rfl, nd, rfl⟩ := hrel
    by_cases hlt : i < l.length
    · obtain ⟨g1, o1, g2, o2, rfl, rfl, c1, c2⟩ := HC.out i hlt
      have hi0 : (0 : Int) ≤ (i : Int) := by omega
      have hil : (i : Int) < (l.length : Int) := by omega
      generalize l[i] = x at *
      go_wp2_with fail
      go_quiet (fail)
      go_wp2
      go_roundw
      case rel => exact ⟨i + 1, by omega, by go_num, _, rfl⟩
      case measure => simp [intOf]; omega
    · have hil : i = l.length := by omega
      subst hil
      go_wp2_with fail
      go_ret
      exact ⟨rfl, (Only.refl _ _).drewN nd⟩
end Go.Proofs.Ytlilhdkaaendlaa
