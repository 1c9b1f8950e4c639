/- Encode for arbitrary cells, and Decode for arbitrary bytes, or the error, and there and back: CellCodes returns true for every input. -/
import Derived.Test.YtdcinifcpaldiaaDoorDecKK
import Derived.Test.YtdcinifcpaldiaaDoorOpenC
namespace Go.Proofs.YtdcinifcpaldiaaDoor
open Go.ChangeShapes Go.WideShapes Go.ChangeAt Go.RowKit Go.Deep

theorem byte_of_wfK {x : Int} (h : (Lit.int .u8 x).wf = true) : 0 ≤ x ∧ x.toNat < 256 := by
  simp [Lit.wf, IntKind.min, IntKind.max, IntKind.signed, IntKind.bits] at h; omega
theorem u8_cellsK : Tryd.prog.cellsOf 5 = 1 := by kernel_rfl
theorem read_u8K {H : Type} {encH : TypeId × Value → H} {W : World} (n : Nat) (cs : List Value) (y : DataW H × List MemPlace) (_ : cs.length = 1) (h : DataW.trod encH Tryd.prog W 0 (fun _ => true) true n 5 cs = some y) :
    ∃ x : Nat, [Value.int .u8 (x : Int)] = cs ∧ x < 256 := by
  obtain ⟨x, rfl, -, wx⟩ := DataW.trod_int Tryd.underlying5 h
  have := byte_of_wfK wx
  exact ⟨x.toNat, by rw [show ((x.toNat : Nat) : Int) = x by omega], this.2⟩
theorem fl_u8sK (l : List Nat) : fl (fun x : Nat => [Value.int .u8 (x : Int)]) l = u8s l := by
  unfold fl u8s
  induction l with
  | nil => rfl
  | cons x l ih => simp [List.flatMap_cons, ih]
set_option maxRecDepth 100000 in
theorem open_u8sK {H : Type} {encH : TypeId × Value → H} {W : World} {v : Value} {d : DataW H} {p : List MemPlace} {r : Reach} {b0 : Nat}
    (hv : Value.okWide Tryd.prog W r b0 28 v) (h : DataW.Trod encH Tryd.prog W 0 (fun _ => true) true 28 v d p) :
    ∃ (a : Option Addr) (l : List Nat) (cap : Nat), v = .slice a l.length cap ∧ Rd W v (u8s l) ∧ ∀ x ∈ l, x < 256 := by
  obtain ⟨a, l, cap, h1, h2, h3⟩ := open_elems Tryd.underlying28 (by decide) u8_cellsK (fun x : Nat => [Value.int .u8 (x : Int)]) (fun x => x < 256) (fun _ => rfl) read_u8K hv h
  rw [fl_u8sK] at h2
  exact ⟨a, l, cap, h1, h2.rd, h3⟩
theorem same_bK (L : List Nat) (hL : L.length ≤ 1000000) (x y : Value) (W : World) (h1 : Rd W x (u8s L)) (h2 : Rd W y (u8s L)) : Calls Tryd.prog 16 #[x, y] W fun e w' => e = .returned (.bool true) ∧ Only No W w' := by
  have := calls_only_of_drew' (Same8_c x y L L W h1 h2 hL hL)
  rw [sameB_self] at this
  exact this
theorem encK_len {L : List Cell} (hok : OkL L) (h : L.length ≤ 60) : (encK L).length ≤ 1000000 := by
  have h1 : ∀ M : List Cell, OkL M → (M.flatMap enc1).length ≤ 26 * M.length := by
    intro M
    induction M with
    | nil => intro _; simp
    | cons c M ih =>
      intro hM
      rw [List.flatMap_cons, List.length_append, List.length_cons]
      have h3 := enc1_len (hM c (List.mem_cons_self ..))
      have h4 := ih (fun x hx => hM x (List.mem_cons_of_mem _ hx))
      omega
  have h2 := varL_len L.length (by omega)
  have := h1 L hok
  unfold encK
  rw [List.length_append]
  omega
theorem encK_byte (L : List Cell) : ∀ c ∈ encK L, c < 256 := by
  intro c hc
  rcases List.mem_append.1 hc with h | h
  · exact varL_byte _ c h
  · obtain ⟨x, -, h⟩ := List.mem_flatMap.1 h
    unfold enc1 at h
    simp only [List.mem_append] at h
    rcases h with h | h | h
    · exact varL_byte _ c h
    · exact put8_byte _ c h
    · exact put8_byte _ c h
theorem cellsD_len : ∀ (n : Nat) (r : List Nat), (cellsD n r).1.length ≤ n := by
  intro n
  induction n with
  | zero => intro r; simp [cellsD]
  | succ n ih =>
    intro r
    unfold cellsD
    split
    · simp
    · have := ih (cell1 r).2.2
      simp only [List.length_cons]
      omega
theorem decK_len (b : List Nat) : (decK b).1.length ≤ 1000000 := by
  obtain ⟨n, e, r, hN⟩ : ∃ n e r, numC 4095 b = (n, e, r) := ⟨_, _, _, rfl⟩
  have hn := numC_le 4095 b
  rw [hN] at hn
  by_cases he : e = 0
  · subst he
    by_cases hm : May (n : Int)
    · rw [decK_may hN hm]
      unfold decKn finD
      split
      · simp
      · have := cellsD_len n r
        simp only at hn ⊢
        omega
    · rw [decK_not hN hm]; simp
  · rw [decK_err hN he]; simp
theorem decK_enc {L : List Cell} (hok : OkL L) (hm : May (L.length : Int)) : decK (encK L) = (L, 0) := by
  have hN : numC 4095 (encK L) = (L.length, 0, L.flatMap enc1) := numC_var (by have := hm.2.1; omega) (by omega) _
  rw [decK_may hN hm]
  have := cellsD_enc L [] hok
  rw [List.append_nil] at this
  unfold decKn finD
  rw [this]
  rfl
end Go.Proofs.YtdcinifcpaldiaaDoor
