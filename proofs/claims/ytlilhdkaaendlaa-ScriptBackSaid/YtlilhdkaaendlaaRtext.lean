/- The document's text of a name. No statement is proved here. -/
import Derived.Test.YtlilhdkaaendlaaRname
import Derived.Test.YtlilhdkaaendlaaRPrint
namespace Go.Proofs.Ytlilhdkaaendlaa
open Go.RowKit

theorem conv1 (b : Nat) (c : UInt8) (W : World) (h : W.cell? ⟨b, 0, none⟩ = some (.int .u8 (c.toNat : Int))) :
    (convert 52 9 (.slice (some ⟨b, 0, none⟩) 1 1)).run Try.prog W = .ok (.string ⟨#[c]⟩) W := by
  have := run_convert_bytes_arg (P := Try.prog) W 52 5 Try.underlying52 Try.underlying5 b 0 1 1
    ([c].map fun c => (c.toNat : Int)) rfl (fun i hi => ?_) 9 Try.underlying9
  · rw [this, strOfNums_bytes]
  · obtain rfl : i = 0 := by omega
    simpa using h
set_option maxRecDepth 100000 in
set_option maxHeartbeats 1600000 in
theorem rText_c (n : List UInt8) (hn : n.length = 8) (w : World) :
    Calls Try.prog 98 #[nmV n] w fun e w' => e = .returned (.string ⟨(ntxt n).toArray⟩) ∧ Only No w w' := by
  obtain ⟨a, b, c, d, e, f, g, h, hh⟩ := eight hn
  have hE : nmV n = .agg #[.int .u8 (a.toNat : Int), .int .u8 (b.toNat : Int), .int .u8 (c.toNat : Int), .int .u8 (d.toNat : Int), .int .u8 (e.toNat : Int), .int .u8 (f.toNat : Int), .int .u8 (g.toNat : Int), .int .u8 (h.toNat : Int)] := by rw [hh]; rfl
  have hA : (bys n).toArray = #[.int .u8 (a.toNat : Int), .int .u8 (b.toNat : Int), .int .u8 (c.toNat : Int), .int .u8 (d.toNat : Int), .int .u8 (e.toNat : Int), .int .u8 (f.toNat : Int), .int .u8 (g.toNat : Int), .int .u8 (h.toNat : Int)] := by rw [hh]; rfl
  rw [hE]
  have HA := Lib.hid hA
  clear hE hA hh
  go_enter Try.func98, Try.ntmps98
  go_wp2_with fail
  go_loopg [3, 4] (8 : Nat) (fun g v3 v4 wr => ∃ (i : Nat) (t : ByteArray), i + g = 8 ∧ v3 = .string t ∧ v4 = .int .i64 i ∧ t = ⟨(n.take i).toArray⟩ ∧ (n.take i).all (fun c => !zerB c) = true ∧ Blk wr w.heap.size (bys n).toArray 49 ∧ Only No w wr)
  case atStart => exact ⟨0, ⟨#[]⟩, by omega, rfl, rfl, rfl, by simp, by rw [HA.out]; exact Blk.new _ _ _, (Only.refl _ _).alloc _⟩
  case round =>
    obtain ⟨i, t, hig, rfl, rfl, ht, ha, hb, hO⟩ := hrel
    by_cases hlt : i < 8
    · obtain ⟨k, hk⟩ : ∃ k, n[i]? = some k := ⟨_, List.getElem?_eq_getElem (by omega)⟩
      have hat := fun W : World => at_nm w.heap.size i hlt W
      have hcell := hb.cell i _ (show (bys n).toArray[i]? = some (.int .u8 (k.toNat : Int)) by simpa using bys_get hk)
      have hzk := zerB_iff k
      have htk : n.take (i + 1) = n.take i ++ [k] := by rw [List.take_add_one, hk]; rfl
      have hts : t.size ≤ 8 := by rw [ht]; simp [ByteArray.size]; omega
      cases hz : zerB k with
      | true =>
        have hR := (tw_hit n i k hk hz ha).1
        have HR := Lib.hid (show t = ⟨(ntxt n).toArray⟩ by rw [hR]; exact ht)
        rw [hz] at hzk
        clear hR htk ha hk hz ht hb HA
        go_wp2_with fail
        all_goals go_ret
        all_goals exact ⟨ret_eq (congrArg Value.string HR.out), hO⟩
      | false =>
        have hA2 : (n.take (i + 1)).all (fun c => !zerB c) = true := by rw [htk, List.all_append, ha]; simp [hz]
        have hT : t ++ (⟨#[k]⟩ : ByteArray) = ⟨(n.take (i + 1)).toArray⟩ := by rw [htk, ht]; exact bytes_join _ [k]
        have HT := Lib.hid hT
        have HA2 := Lib.hid hA2
        have HB := Lib.hid hb
        rw [hz] at hzk
        have hcv := conv1 wr.heap.size k (wr.alloc (.cells #[.int .u8 (k.toNat : Int)] 5)) ((Blk.new wr #[.int .u8 (k.toNat : Int)] 5).cell 0 _ rfl)
        clear hA2 hT htk ha hk hz ht hb HA
        go_wp2_with fail
        go_roundg (8 - (i + 1))
        case measure => omega
        case rel => exact ⟨i + 1, _, by omega, rfl, by go_num, HT.out, HA2.out, HB.out.alloc _, hO.alloc _⟩
    · have hi : i = 8 := by omega
      subst hi
      rw [List.take_of_length_le (by omega)] at ha ht
      have HR := Lib.hid (show t = ⟨(ntxt n).toArray⟩ by rw [(tw_all n ha).1]; exact ht)
      clear ha ht hb HA
      go_wp2_with fail
      all_goals go_ret
      all_goals exact ⟨ret_eq (congrArg Value.string HR.out), hO⟩
end Go.Proofs.Ytlilhdkaaendlaa
