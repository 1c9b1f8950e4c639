/- Arguments that are slices, of elements of however many cells. No statement is proved here. -/
import Derived.Test.YtdcinifcpaldiaaDoorApp
import Derived.Test.YtdcinifcpaldiaaDoorLaw
namespace Go.Proofs.YtdcinifcpaldiaaDoor
open Go.ChangeShapes Go.WideShapes Go.ChangeAt Go.RowKit Go.Deep

set_option maxRecDepth 100000 in
theorem open_elems {H : Type} {encH : TypeId × Value → H} {W : World} {v : Value} {d : DataW H} {p : List MemPlace} {r : Reach} {b0 : Nat} {t e : TypeId} (ht : Tryd.prog.underlying t = some (.slice e)) {K : Nat} (hK : 0 < K) (hC : Tryd.prog.cellsOf e = K)
    {α : Type} [Inhabited α] (enc : α → List Value) (good : α → Prop) (hlen : ∀ x, (enc x).length = K)
    (hread : ∀ (n : Nat) (cs : List Value) (y : DataW H × List MemPlace), cs.length = K → DataW.trod encH Tryd.prog W 0 (fun _ => true) true n e cs = some y → ∃ x, enc x = cs ∧ good x)
    (hv : Value.okWide Tryd.prog W r b0 t v) (h : DataW.Trod encH Tryd.prog W 0 (fun _ => true) true t v d p) :
    ∃ (a : Option Addr) (l : List α) (cap : Nat), v = .slice a l.length cap ∧ RdN K W v l.length (fl enc l) ∧ ∀ x ∈ l, good x := by
  obtain ⟨a, len, cap, rfl⟩ := okWide_slice ht hv
  obtain ⟨fuel, hf⟩ := h
  rcases open_slice ht hf with ⟨hcs, -⟩ | ⟨a', len', cap', m, k, D, Pl, hcs, hb, hl, hm, hmm, hx, hi⟩
  · simp [Value.cells] at hcs
    obtain ⟨rfl, rfl, rfl⟩ := hcs
    exact ⟨none, [], 0, rfl, ⟨none, 0, rfl, Nat.le_refl _, by simp, fun h => absurd h (by simp)⟩, by simp⟩
  · simp only [Value.cells, List.cons.injEq, Value.slice.injEq, and_true] at hcs
    obtain ⟨rfl, rfl, rfl⟩ := hcs
    have hlm : len ≤ m := by rw [hmm]; split <;> omega
    have key : ∀ i, i < len → ∃ x, good x ∧ ∀ j u, (enc x)[j]? = some u → W.cell? ((a'.add (i * K)).add j) = some u := by
      intro i hil
      obtain ⟨cs, hc, ht⟩ := hi i (by omega)
      rw [hC] at hc
      obtain ⟨-, hcl, hat⟩ := World.cells?_some hc
      obtain ⟨x, hx, hg⟩ := hread _ cs _ hcl ht
      refine ⟨x, hg, fun j u hu => ?_⟩
      have hj : j < K := by rw [← hlen x]; exact (List.getElem?_eq_some_iff.1 hu).1
      have := hat j hj
      rw [this, ← hx]
      exact hu
    classical
    let f : Nat → α := fun i => if h : i < len then Classical.choose (key i h) else default
    have hfk : ∀ i, i < len → good (f i) ∧ ∀ j u, (enc (f i))[j]? = some u → W.cell? ((a'.add (i * K)).add j) = some u := by
      intro i h
      have := Classical.choose_spec (key i h)
      simpa only [f, dif_pos h] using this
    clear_value f
    refine ⟨some a', (List.range len).map f, cap, by simp, ⟨some a', cap, by simp, by simpa using hl, by rw [fl_len hlen], fun hp => ?_⟩, fun x hx => ?_⟩
    · simp only [List.length_map, List.length_range] at hp
      obtain ⟨b, off, spot⟩ := a'
      have h0 : ∃ u, (enc (f 0))[0]? = some u := ⟨_, List.getElem?_eq_getElem (by rw [hlen]; exact hK)⟩
      obtain ⟨u0, hu0⟩ := h0
      have hc0 := (hfk 0 hp).2 0 u0 hu0
      have hspot : spot = none := by simpa [Addr.add] using World.cell?_spot hc0
      subst hspot
      refine ⟨b, off, rfl, by have := World.block_lt_of_cell? W _ hc0; simpa [Addr.add] using this, fun j u hu => ?_⟩
      have hjl : j < len * K := by
        have := (List.getElem?_eq_some_iff.1 hu).1
        rw [fl_len hlen] at this
        simpa using this
      have hd : j = j / K * K + j % K := by rw [Nat.mul_comm]; exact (Nat.div_add_mod j K).symm
      have hq : j / K < len := Nat.div_lt_of_lt_mul (by rw [Nat.mul_comm]; exact hjl)
      have hr := Nat.mod_lt j hK
      have hu2 : (enc (f (j / K)))[j % K]? = some u := by
        have h1 := fl_get (enc := enc) hlen (l := (List.range len).map f) (i := j / K) (j := j % K) (by simpa using hq) hr
        rw [← hd, hu] at h1
        simpa using h1.symm
      have := (hfk _ hq).2 _ u hu2
      rw [add_none (a := ⟨b, off, none⟩) rfl, add_none (a := ⟨b, off + j / K * K, none⟩) rfl] at this
      simpa [Nat.add_assoc, ← hd] using this
    · obtain ⟨i, hi', rfl⟩ := List.mem_map.1 hx
      exact (hfk i (List.mem_range.1 hi')).1
theorem fl_u64s (l : List Nat) : fl (fun x : Nat => [Value.int .u64 (x : Int)]) l = u64s l := by
  unfold fl u64s
  induction l with
  | nil => rfl
  | cons x l ih => simp [List.flatMap_cons, ih]
theorem RdN.rd {w : World} {v : Value} {n : Nat} {xs : List Value} (h : RdN 1 w v n xs) : Rd w v xs := by
  obtain ⟨a, cap, h1, h2, h3, h4⟩ := h
  have : xs.length = n := by omega
  subst this
  exact ⟨a, cap, h1, h2, h4⟩
theorem w64_of_wf {x : Int} (h : (Lit.int .u64 x).wf = true) : 0 ≤ x ∧ W64 x.toNat := by
  simp [Lit.wf, IntKind.min, IntKind.max, IntKind.signed, IntKind.bits] at h
  unfold W64
  omega
theorem u64_cells : Tryd.prog.cellsOf 25 = 1 := by kernel_rfl
theorem read_u64 {H : Type} {encH : TypeId × Value → H} {W : World} (n : Nat) (cs : List Value) (y : DataW H × List MemPlace) (_ : cs.length = 1) (h : DataW.trod encH Tryd.prog W 0 (fun _ => true) true n 25 cs = some y) :
    ∃ x : Nat, [Value.int .u64 (x : Int)] = cs ∧ W64 x := by
  obtain ⟨x, rfl, -, wx⟩ := DataW.trod_int Tryd.underlying25 h
  have := w64_of_wf wx
  exact ⟨x.toNat, by rw [show ((x.toNat : Nat) : Int) = x by omega], this.2⟩
set_option maxRecDepth 100000 in
theorem open_u64s {H : Type} {encH : TypeId × Value → H} {W : World} {v : Value} {d : DataW H} {p : List MemPlace} {r : Reach} {b0 : Nat}
    (hv : Value.okWide Tryd.prog W r b0 22 v) (h : DataW.Trod encH Tryd.prog W 0 (fun _ => true) true 22 v d p) :
    ∃ (a : Option Addr) (l : List Nat) (cap : Nat), v = .slice a l.length cap ∧ Rd W v (u64s l) ∧ ∀ x ∈ l, W64 x := by
  obtain ⟨a, l, cap, h1, h2, h3⟩ := open_elems Tryd.underlying22 (by decide) u64_cells (fun x : Nat => [Value.int .u64 (x : Int)]) W64 (fun _ => rfl) read_u64 hv h
  rw [fl_u64s] at h2
  exact ⟨a, l, cap, h1, h2.rd, h3⟩
end Go.Proofs.YtdcinifcpaldiaaDoor
