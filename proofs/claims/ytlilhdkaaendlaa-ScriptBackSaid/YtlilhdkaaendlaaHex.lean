/- Bytes as hex digits: what a digit is worth. No statement is proved here. -/
import Derived.Test.YtlilhdkaaendlaaTake
namespace Go.Proofs.Ytlilhdkaaendlaa
open Go.RowKit

def hexD (c : UInt8) : Int := if 48 ≤ c.toNat ∧ c.toNat ≤ 57 then (c.toNat : Int) - 48 else if 97 ≤ c.toNat ∧ c.toNat ≤ 102 then (c.toNat : Int) - 87 else -1
set_option maxRecDepth 100000 in
theorem rdigit_c (c : UInt8) (w : World) : Calls Try.prog 44 #[.int .u8 (c.toNat : Int)] w fun e w' => e = .returned (.int .i64 (hexD c)) ∧ w = w' := by
  unfold hexD
  have h256 : c.toNat < 256 := c.toNat_lt
  generalize c.toNat = n at *
  by_cases h1 : 48 ≤ n ∧ n ≤ 57
  · rw [if_pos h1]
    obtain ⟨h1, h2⟩ := h1
    go_enter Try.func44, Try.ntmps44
    go_wp2
    all_goals go_ret
    all_goals exact ⟨ret_eq (by show Value.int _ _ = Value.int _ _; exact congrArg (Value.int .i64) (by omega)), rfl⟩
  · rw [if_neg h1]
    by_cases h2 : 97 ≤ n ∧ n ≤ 102
    · rw [if_pos h2]
      obtain ⟨h2, h3⟩ := h2
      clear h1
      have k1 : ¬ n ≤ 57 := by omega
      go_enter Try.func44, Try.ntmps44
      go_wp2
      all_goals go_ret
      all_goals exact ⟨ret_eq (by show Value.int _ _ = Value.int _ _; exact congrArg (Value.int .i64) (by omega)), rfl⟩
    · rw [if_neg h2]
      go_enter Try.func44, Try.ntmps44
      go_wp2
      all_goals try (exfalso; simp at *; omega)
      all_goals go_ret
      all_goals exact ⟨rfl, rfl⟩
def hexs : ByteArray := ⟨#[48, 49, 50, 51, 52, 53, 54, 55, 56, 57, 97, 98, 99, 100, 101, 102]⟩
set_option maxRecDepth 100000 in
theorem index_hex (c : UInt8) : Lib.indexByte hexs.data.toList c = hexD c := by
  have h : ∀ n : Fin 256, Lib.indexByte hexs.data.toList (UInt8.ofNat n.val) = hexD (UInt8.ofNat n.val) := by decide
  have := h ⟨c.toNat, c.toNat_lt⟩
  simpa using this
theorem indexHex_c (c : UInt8) (w : World) : Calls Try.prog 43 #[.string hexs, .int .u8 (c.toNat : Int)] w fun e w' => e = .returned (.int .i64 (hexD c)) ∧ w' = w := by
  have := Try.strings_IndexByte hexs (c.toNat : Int) w
  rw [show ((c.toNat : Int).toNat.toUInt8) = c by simp, index_hex] at this
  exact this
end Go.Proofs.Ytlilhdkaaendlaa
