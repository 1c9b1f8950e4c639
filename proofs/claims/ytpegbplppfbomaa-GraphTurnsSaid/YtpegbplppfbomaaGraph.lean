/- A graph in memory; who is joined to whom. No statement is proved here. -/
import Derived.Test.YtpegbplppfbomaaMap
import Derived.Test.YtpegbplppfbomaaBun
import Derived.WideKeyArr
import Derived.RangeFuncNested
import Derived.RangeFuncBound
import Derived.RangeFuncCalls
import Derived.RangeFuncLeaves
import Derived.Shelf.Abstract
import Derived.Shelf.RegionOpen
import Derived.OwnWalkIn
import Derived.TacticsInMore
import Derived.LoopNIn
import Derived.LoopIn
namespace Go.Proofs.Ytpegbplppfbomaa
open Go.RowKit Go.Maps

theorem gp_row : (89 : TypeId) < Try.prog.types.size := of_decide_eq_true (by kernel_rfl)
theorem gp_laid : laidOutB Try.prog = true := by kernel_rfl
theorem gp_cells : Try.prog.cellsOf 89 = 2 := by kernel_rfl
theorem gp_cells1 : Try.prog.cellsOf 5 = 1 := by kernel_rfl
theorem gp_arr : WideMaps.ArrKey Try.prog 89 5 2 := ⟨Try.underlying89, by kernel_rfl, gp_cells1, gp_cells⟩
theorem gp_keyed : Keyed Try.prog 89 := Keyed.of_law gp_arr.law
theorem gp_zero (w : World) : (zeroValue 3).run Try.prog w = .ok (.int .i64 0) w := by kernel_rfl
def pk (a b : Nat) : Value := .agg #[.int .u8 (a : Int), .int .u8 (b : Int)]
theorem pk_inj {a b c d : Nat} (h : pk a b = pk c d) : a = c ∧ b = d := by
  unfold pk at h
  simp at h
  omega
theorem gp_key : Try.prog.keyType 89 = true := by kernel_rfl
theorem types_succ : ∃ m, Try.prog.types.size = m + 1 := ⟨Try.prog.types.size - 1, by have h : 0 < Try.prog.types.size := of_decide_eq_true (by kernel_rfl); omega⟩
set_option maxRecDepth 100000 in
theorem pk_ok (a b : Nat) (ha : a < 256) (hb : b < 256) : OkKey Try.prog 89 (pk a b) := by
  obtain ⟨m, hm⟩ := types_succ
  have wa : (Lit.int .u8 (a : Int)).wf = true := by simp [Lit.wf, IntKind.min, IntKind.max, IntKind.signed, IntKind.bits]; omega
  have wb : (Lit.int .u8 (b : Int)).wf = true := by simp [Lit.wf, IntKind.min, IntKind.max, IntKind.signed, IntKind.bits]; omega
  have hl : ∀ (x : Nat), (Lit.int .u8 (x : Int)).wf = true → Try.prog.keyLits (m + 1) 5 [.int .u8 (x : Int)] = some [.int .u8 (x : Int)] := by
    intro x hx
    unfold Program.keyLits
    simp only [Try.underlying5]
    simp [hx]
  refine ⟨.string (keyBytes [.int .u8 (a : Int), .int .u8 (b : Int)]), ?_⟩
  unfold keyOf pk
  simp only [Try.underlying89]
  rw [if_pos (by simp [gp_key, Value.formed, Try.underlying89, gp_cells]), hm]
  unfold Program.keyLits
  simp only [Try.underlying89, Value.cells]
  rw [if_pos (by rw [gp_cells]; rfl)]
  simp only [gp_cells1]
  have e : (List.range 2).mapM (fun i => Try.prog.keyLits (m + 1) 5 ((#[Value.int .u8 (a : Int), .int .u8 (b : Int)].toList.drop (i * 1)).take 1)) = some [[.int .u8 (a : Int)], [.int .u8 (b : Int)]] := by
    show (List.mapM _ [0, 1]) = _
    simp [hl a wa, hl b wb]
  rw [e]
  rfl

/-- A graph of n replicas, joined as j says; nobody: none of anything. -/
def IsGraph (w : World) (B : Nat) (p : Option Addr) (n : Nat) (j : Nat → Nat → Bool) : Prop :=
  (p = none ∧ n = 0 ∧ ∀ a b, j a b = false) ∨
  ∃ (gb mb : Nat) (get : Value → Option Value), p = some ⟨gb, 0, none⟩ ∧ gb < B ∧ mb < B ∧ Blk w gb #[.int .i64 (n : Int), .map (some mb)] 114 ∧ MapIs Try.prog 89 w mb get ∧ 1 ≤ n ∧ n ≤ 16 ∧
    ∀ a b, a < 256 → b < 256 → ∃ c : Int, (get (pk a b)).getD (.int .i64 0) = .int .i64 c ∧ decide (0 < c) = j a b
theorem IsGraph.n_le {w : World} {B : Nat} {p : Option Addr} {n : Nat} {j : Nat → Nat → Bool} (h : IsGraph w B p n j) : n ≤ 16 := by
  rcases h with ⟨_, rfl, _⟩ | ⟨gb, mb, get, _, _, _, _, _, _, h, _⟩ <;> omega
theorem IsGraph.only {S : Nat → Prop} {w w' : World} {B : Nat} {p : Option Addr} {n : Nat} {j : Nat → Nat → Bool} (h : IsGraph w B p n j) (ho : Only S w w') (hs : ∀ k, k < B → ¬ S k) : IsGraph w' B p n j := by
  rcases h with h | ⟨gb, mb, get, h1, h2, h3, h4, h5, h6⟩
  · exact .inl h
  · exact .inr ⟨gb, mb, get, h1, h2, h3, ho.blk h4 (hs _ h2), h5.only ho (hs _ h3), h6⟩
theorem IsGraph.no {w w' : World} {B : Nat} {p : Option Addr} {n : Nat} {j : Nat → Nat → Bool} (h : IsGraph w B p n j) (ho : Only No w w') : IsGraph w' B p n j := h.only ho (fun _ _ => id)

theorem len_c (p : Option Addr) (n : Nat) (j : Nat → Nat → Bool) (B : Nat) (w : World) (hG : IsGraph w B p n j) :
    Calls Try.prog 39 #[.pointer p] w fun e w' => e = .returned (.int .i64 (n : Int)) ∧ w = w' := by
  rcases hG with ⟨rfl, rfl, -⟩ | ⟨gb, mb, get, rfl, -, -, hb, -, h1, h16, -⟩
  · go_enter Try.func39, Try.ntmps39
    go_wp2
    go_ret
    exact ⟨rfl, rfl⟩
  · have c0 := hb.cell 0 _ rfl
    go_enter Try.func39, Try.ntmps39
    go_wp2
    go_ret
    exact ⟨rfl, rfl⟩

theorem has_c (p : Option Addr) (n : Nat) (j : Nat → Nat → Bool) (B : Nat) (w : World) (hG : IsGraph w B p n j) (a b : Nat) (ha : a < 256) (hb : b < 256) :
    Calls Try.prog 41 #[.pointer p, .int .u8 (a : Int), .int .u8 (b : Int)] w fun e w' => e = .returned (.bool (j a b)) ∧ w = w' := by
  rcases hG with ⟨rfl, rfl, h0⟩ | ⟨gb, mb, get, rfl, -, -, hB, hm, h1, h16, hj⟩
  · rw [h0]
    go_enter Try.func41, Try.ntmps41
    go_wp2
    go_ret
    exact ⟨rfl, rfl⟩
  · obtain ⟨c, hc, hcj⟩ := hj a b ha hb
    have hl := hm.lookup gp_keyed Try.underlying112 gp_zero (pk_ok a b ha hb)
    rw [hc] at hl
    have c1 := hB.cell 1 _ rfl
    rw [← hcj]
    unfold pk at hl
    clear hc hcj hj
    go_enter Try.func41, Try.ntmps41
    go_wp2
    all_goals
      go_ret
      exact ⟨rfl, rfl⟩
end Go.Proofs.Ytpegbplppfbomaa
