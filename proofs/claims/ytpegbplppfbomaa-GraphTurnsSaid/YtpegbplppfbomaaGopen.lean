/- An argument that is a slice of pairs. No statement is proved here. -/
import Derived.Test.YtpegbplppfbomaaGpairs
import Derived.Test.YtpegbplppfbomaaParsesLaw
namespace Go.Proofs.Ytpegbplppfbomaa
open Go.ChangeShapes Go.WideShapes Go.ChangeAt Go.RowKit Go.Deep

theorem rpair_cells : Try.prog.cellsOf 88 = 2 := by kernel_rfl
theorem u8_cells : Try.prog.cellsOf 5 = 1 := by kernel_rfl
theorem wf_u8_bd {x : Int} (h : (Lit.int .u8 x).wf = true) : 0 ≤ x ∧ x < 256 := by
  simp [Lit.wf, IntKind.min, IntKind.max, IntKind.signed, IntKind.bits] at h; omega
set_option maxRecDepth 100000 in
theorem open_rpairs {H : Type} {enc : TypeId × Value → H} {W : World} {v : Value} {d : DataW H} {p : List MemPlace} {r : Reach} {b0 : Nat}
    (hv : Value.okWide Try.prog W r b0 66 v) (h : DataW.Trod enc Try.prog W 0 (fun _ => true) true 66 v d p) :
    ∃ (a : Option Addr) (l : List (Nat × Nat)) (cap : Nat), v = .slice a l.length cap ∧ Sees2 W v l ∧ ∀ x ∈ l, x.1 < 256 ∧ x.2 < 256 := by
  obtain ⟨a, len, cap, rfl⟩ := okWide_slice Try.underlying66 hv
  obtain ⟨fuel, hf⟩ := h
  rcases open_slice Try.underlying66 hf with ⟨hcs, -⟩ | ⟨a', len', cap', m, k, D, Pl, hcs, hb, hl, hm, hmm, hx, hi⟩
  · simp [Value.cells] at hcs
    obtain ⟨rfl, rfl, rfl⟩ := hcs
    exact ⟨none, [], 0, rfl, Sees2.nil _ _ _, by simp⟩
  · simp only [Value.cells, List.cons.injEq, Value.slice.injEq, and_true] at hcs
    obtain ⟨rfl, rfl, rfl⟩ := hcs
    have hlm : len ≤ m := by rw [hmm]; split <;> omega
    have key : ∀ i, i < len → ∃ x y : Nat, x < 256 ∧ y < 256 ∧ W.cell? (a'.add (i * 2)) = some (.int .u8 (x : Int)) ∧ W.cell? ((a'.add (i * 2)).add 1) = some (.int .u8 (y : Int)) := by
      intro i hil
      obtain ⟨cs, hc, ht⟩ := hi i (by omega)
      rw [rpair_cells] at hc
      obtain ⟨-, hcl, hat⟩ := World.cells?_some hc
      match cs, hcl, hat, ht with
      | [c0, c1], _, hat, ht =>
        obtain ⟨xs, m', -, -, -, hlen, hii⟩ := DataW.trod_array Try.underlying88 ht
        match xs, hlen with
        | [y0, y1], _ =>
          have g0 := hii 0 (by omega)
          have g1 := hii 1 (by omega)
          rw [u8_cells] at g0 g1
          obtain ⟨x, e0, -, wx⟩ := DataW.trod_int Try.underlying5 g0
          obtain ⟨y, e1, -, wy⟩ := DataW.trod_int Try.underlying5 g1
          simp at e0 e1
          have bx := wf_u8_bd wx
          have by_ := wf_u8_bd wy
          refine ⟨x.toNat, y.toNat, by omega, by omega, ?_, ?_⟩
          · have := hat 0 (by omega)
            rw [e0] at this
            rw [show ((x.toNat : Nat) : Int) = x by omega]
            simpa [Addr.add] using this
          · have := hat 1 (by omega)
            rw [e1] at this
            rw [show ((y.toNat : Nat) : Int) = y by omega]
            simpa using this
    classical
    let f : Nat → Nat × Nat := fun i => if h : i < len then (Classical.choose (key i h), Classical.choose (Classical.choose_spec (key i h))) else (0, 0)
    have hfk : ∀ i, i < len → (f i).1 < 256 ∧ (f i).2 < 256 ∧ W.cell? (a'.add (i * 2)) = some (.int .u8 ((f i).1 : Int)) ∧ W.cell? ((a'.add (i * 2)).add 1) = some (.int .u8 ((f i).2 : Int)) := by
      intro i h
      have := Classical.choose_spec (Classical.choose_spec (key i h))
      simpa only [f, dif_pos h] using this
    clear_value f
    refine ⟨some a', (List.range len).map f, cap, by simp, ⟨some a', cap, by simp, by simpa using hl, fun hp => ?_⟩, fun x hx => ?_⟩
    · simp only [List.length_map, List.length_range] at hp
      obtain ⟨b, off, spot⟩ := a'
      have hspot : spot = none := by simpa [Addr.add] using World.cell?_spot (hfk 0 hp).2.2.1
      subst hspot
      refine ⟨b, off, rfl, World.block_lt_of_cell? W _ (hfk 0 hp).2.2.1, fun i hi' => ?_⟩
      simp only [List.length_map, List.length_range] at hi'
      obtain ⟨-, -, h3, h4⟩ := hfk i hi'
      rw [add_none rfl] at h3
      rw [add_none (a := ⟨b, off, none⟩) rfl, add_none rfl] at h4
      simp only [List.getElem_map, List.getElem_range]
      exact ⟨h3, h4⟩
    · obtain ⟨i, hi', rfl⟩ := List.mem_map.1 hx
      have := hfk i (List.mem_range.1 hi')
      exact ⟨this.1, this.2.1⟩
end Go.Proofs.Ytpegbplppfbomaa
