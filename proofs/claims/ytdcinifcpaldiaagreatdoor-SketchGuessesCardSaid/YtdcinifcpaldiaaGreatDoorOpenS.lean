/- Arguments that are slices of tables of cells; sketches that are too much. No statement is proved here. -/
import Derived.Test.YtdcinifcpaldiaaGreatDoorOpenC
import Derived.Test.YtdcinifcpaldiaaGreatDoorSketch
namespace Go.Proofs.YtdcinifcpaldiaaGreatDoor
open Go.ChangeShapes Go.WideShapes Go.ChangeAt Go.RowKit Go.Deep

set_option maxRecDepth 100000 in
theorem open_elems_t {H : Type} {encH : TypeId × Value → H} {W : World} {cs0 : List Value} {y0 : DataW H × List MemPlace} {fuel : Nat} {t e : TypeId} (ht : Tryz.prog.underlying t = some (.slice e)) {K : Nat} (hK : 0 < K) (hC : Tryz.prog.cellsOf e = K)
    {α : Type} [Inhabited α] (enc : α → List Value) (good : α → Prop) (hlen : ∀ x, (enc x).length = K)
    (hread : ∀ (n : Nat) (cs : List Value) (y : DataW H × List MemPlace), cs.length = K → DataW.trod encH Tryz.prog W 0 (fun _ => true) true n e cs = some y → ∃ x, enc x = cs ∧ good x)
    (hf : DataW.trod encH Tryz.prog W 0 (fun _ => true) true fuel t cs0 = some y0) :
    ∃ (a : Option Addr) (l : List α) (cap : Nat), cs0 = [.slice a l.length cap] ∧ RdN K W (.slice a l.length cap) l.length (fl enc l) ∧ ∀ x ∈ l, good x := by
  rcases open_slice ht hf with ⟨hcs, -⟩ | ⟨a', len, cap, m, k, D, Pl, hcs, hb, hl, hm, hmm, hx, hi⟩
  · subst hcs
    exact ⟨none, [], 0, rfl, ⟨none, 0, rfl, Nat.le_refl _, by simp, fun h => absurd h (by simp)⟩, by simp⟩
  · subst hcs
    have hlm : len ≤ m := by rw [hmm]; split <;> omega
    have key : ∀ i, i < len → ∃ x, good x ∧ ∀ j u, (enc x)[j]? = some u → W.cell? ((a'.add (i * K)).add j) = some u := by
      intro i hil
      obtain ⟨cs, hc, ht⟩ := hi i (by omega)
      rw [hC] at hc
      obtain ⟨-, hcl, hat⟩ := World.cells?_some hc
      obtain ⟨x, hx, hg⟩ := hread _ cs _ hcl ht
      refine ⟨x, hg, fun j u hu => ?_⟩
      have hj : j < K := by rw [← hlen x]; exact (List.getElem?_eq_some_iff.1 hu).1
      have := hat j hj
      rw [this, ← hx]
      exact hu
    classical
    let f : Nat → α := fun i => if h : i < len then Classical.choose (key i h) else default
    have hfk : ∀ i, i < len → good (f i) ∧ ∀ j u, (enc (f i))[j]? = some u → W.cell? ((a'.add (i * K)).add j) = some u := by
      intro i h
      have := Classical.choose_spec (key i h)
      simpa only [f, dif_pos h] using this
    clear_value f
    refine ⟨some a', (List.range len).map f, cap, by simp, ⟨some a', cap, by simp, by simpa using hl, by rw [fl_len hlen], fun hp => ?_⟩, fun x hx => ?_⟩
    · simp only [List.length_map, List.length_range] at hp
      obtain ⟨b, off, spot⟩ := a'
      have h0 : ∃ u, (enc (f 0))[0]? = some u := ⟨_, List.getElem?_eq_getElem (by rw [hlen]; exact hK)⟩
      obtain ⟨u0, hu0⟩ := h0
      have hc0 := (hfk 0 hp).2 0 u0 hu0
      have hspot : spot = none := by simpa [Addr.add] using World.cell?_spot hc0
      subst hspot
      refine ⟨b, off, rfl, by have := World.block_lt_of_cell? W _ hc0; simpa [Addr.add] using this, fun j u hu => ?_⟩
      have hjl : j < len * K := by
        have := (List.getElem?_eq_some_iff.1 hu).1
        rw [fl_len hlen] at this
        simpa using this
      have hd : j = j / K * K + j % K := by rw [Nat.mul_comm]; exact (Nat.div_add_mod j K).symm
      have hq : j / K < len := Nat.div_lt_of_lt_mul (by rw [Nat.mul_comm]; exact hjl)
      have hr := Nat.mod_lt j hK
      have hu2 : (enc (f (j / K)))[j % K]? = some u := by
        have h1 := fl_get (enc := enc) hlen (l := (List.range len).map f) (i := j / K) (j := j % K) (by simpa using hq) hr
        rw [← hd, hu] at h1
        simpa using h1.symm
      have := (hfk _ hq).2 _ u hu2
      rw [add_none (a := ⟨b, off, none⟩) rfl, add_none (a := ⟨b, off + j / K * K, none⟩) rfl] at this
      simpa [Nat.add_assoc, ← hd] using this
    · obtain ⟨i, hi', rfl⟩ := List.mem_map.1 hx
      exact (hfk i (List.mem_range.1 hi')).1
theorem cells_cells : Tryz.prog.cellsOf 41 = 1 := by kernel_rfl
theorem fl_fst (ps : List (Value × List Cell)) : fl (fun x : Value × List Cell => [x.1]) ps = ps.map (·.1) := by
  induction ps with
  | nil => rfl
  | cons x ps ih => rw [fl_cons, ih]; rfl
set_option maxRecDepth 100000 in
theorem read_row {H : Type} {encH : TypeId × Value → H} {W : World} (n : Nat) (cs : List Value) (y : DataW H × List MemPlace) (_ : cs.length = 1) (h : DataW.trod encH Tryz.prog W 0 (fun _ => true) true n 41 cs = some y) :
    ∃ x : Value × List Cell, [x.1] = cs ∧ (RdN 3 W x.1 x.2.length (fl encC x.2) ∧ OkL x.2) := by
  obtain ⟨a, l, cap, rfl, h2, h3⟩ := open_elems_t Tryz.underlying41 (by decide) cell_cells encC OkC encC_len read_cell h
  exact ⟨(.slice a l.length cap, l), rfl, h2, h3⟩
set_option maxRecDepth 100000 in
theorem open_sk {H : Type} {encH : TypeId × Value → H} {W : World} {v : Value} {d : DataW H} {p : List MemPlace} {r : Reach} {b0 : Nat}
    (hv : Value.okWide Tryz.prog W r b0 22 v) (h : DataW.Trod encH Tryz.prog W 0 (fun _ => true) true 22 v d p) :
    ∃ (a : Option Addr) (L : List (List Cell)) (cap : Nat), v = .slice a L.length cap ∧ Sk W v L ∧ ∀ M ∈ L, OkL M := by
  obtain ⟨a, ps, cap, h1, h2, h3⟩ := open_elems Tryz.underlying22 (by decide) cells_cells (fun x : Value × List Cell => [x.1]) (fun x => RdN 3 W x.1 x.2.length (fl encC x.2) ∧ OkL x.2) (fun _ => rfl) read_row hv h
  rw [fl_fst] at h2
  refine ⟨a, ps.map (·.2), cap, by simpa using h1, ⟨ps.map (·.1), by simp, h2.rd, fun i u M hu hM => ?_⟩, fun M hM => ?_⟩
  · rw [List.getElem?_map] at hu hM
    cases hp : ps[i]? with
    | none => rw [hp] at hu; cases hu
    | some x =>
      rw [hp] at hu hM
      injection hu with hu
      injection hM with hM
      subst hu hM
      exact (h3 x (List.mem_of_getElem? hp)).1
  · obtain ⟨x, hx, rfl⟩ := List.mem_map.1 hM
    exact (h3 x hx).2
/-- Is it too much to be looked at? -/
def LargeS (L : List (List Cell)) : Bool := (L.take 20).any (fun M => decide (40 < M.length)) || decide (18 < L.length)
theorem large_no {L : List (List Cell)} (h : LargeS L = false) : L.length ≤ 18 ∧ ∀ M ∈ L, M.length ≤ 40 := by
  unfold LargeS at h
  rw [Bool.or_eq_false_iff] at h
  have h2 : L.length ≤ 18 := by simpa using h.2
  refine ⟨h2, fun M hM => ?_⟩
  have h1 := h.1
  rw [List.take_of_length_le (by omega), List.any_eq_false] at h1
  have := h1 M hM
  simpa using this
theorem any_snoc {L : List (List Cell)} {i : Nat} (hi : i < L.length) : (L.take (i + 1)).any (fun M => decide (40 < M.length)) = ((L.take i).any (fun M => decide (40 < M.length)) || decide (40 < L[i].length)) := by
  rw [List.take_succ_eq_append_getElem hi, List.any_append]
  simp
theorem any_prefix {L : List (List Cell)} {i : Nat} (hi : i ≤ 20) (h : (L.take i).any (fun M => decide (40 < M.length)) = true) : LargeS L = true := by
  unfold LargeS
  rw [Bool.or_eq_true]
  left
  obtain ⟨M, hM, h2⟩ := List.any_eq_true.1 h
  exact List.any_eq_true.2 ⟨M, List.mem_of_mem_take (i := i) (by rw [List.take_take, Nat.min_eq_left hi]; exact hM), h2⟩
set_option maxRecDepth 100000 in
set_option maxHeartbeats 1000000 in
theorem Large_c (v : Value) (L : List (List Cell)) (w : World) (h : Sk w v L) :
    Calls Tryz.prog 5 #[v] w fun e w' => e = .returned (.bool (LargeS L)) ∧ w = w' := by
  obtain ⟨a1, c1, rfl, -⟩ := h.cases
  obtain ⟨r, hr⟩ : ∃ r : Bool, r = LargeS L := ⟨_, rfl⟩
  rw [← hr]
  have HR := Lib.hid hr
  clear hr
  go_enter Tryz.func5, Tryz.ntmps5
  go_wp2
  go_loop [3] (fun v3 => ∃ i : Nat, i ≤ L.length ∧ i ≤ 20 ∧ v3 = .int .i64 i ∧ (L.take i).any (fun M => decide (40 < M.length)) = false) (fun v3 => 20 - (intOf v3).toNat)
  case atStart => exact ⟨0, by omega, by omega, rfl, by simp⟩
  case round =>
    obtain ⟨i, hi, hi2, rfl, hp⟩ := hrel
    by_cases hlt : i < L.length
    · by_cases hl2 : i < 20
      · obtain ⟨-, b1, o1, t1, d1, rfl, hb1, k1, r1⟩ := h.at hlt
        have HS := Lib.hid (any_snoc hlt)
        have HP := Lib.hid hp
        have HY := Lib.hid (any_prefix (L := L) (show i + 1 ≤ 20 by omega))
        generalize L[i] = M at *
        have hcap := (r1.cases)
        clear hp h r1 hcap
        by_cases h40 : 40 < M.length
        · have HT := Lib.hid (HY.out (by rw [HS.out, decide_eq_true h40, Bool.or_true]))
          go_wp2
          go_ret
          exact ⟨ret_eq (congrArg Value.bool (by rw [HR.out, HT.out])), rfl⟩
        · have HF := Lib.hid (show (L.take (i + 1)).any (fun M => decide (40 < M.length)) = false by rw [HS.out, HP.out, decide_eq_false h40]; rfl)
          go_wp2
          go_round
          case rel => exact ⟨i + 1, by omega, by omega, by go_num, HF.out⟩
          case measure => simp [intOf]; omega
      · obtain rfl : i = 20 := by omega
        by_cases h18 : 18 < L.length
        · have HT := Lib.hid (show LargeS L = true by unfold LargeS; rw [hp, decide_eq_true h18]; rfl)
          have hd18 : decide ((18 : Int) < (L.length : Int)) = true := by simp; omega
          clear hp h
          go_wp2
          go_ret
          exact ⟨ret_eq (congrArg Value.bool (by rw [HR.out, HT.out])), rfl⟩
        · omega
    · obtain rfl : i = L.length := by omega
      have hlt20 : (L.take 20).any (fun M => decide (40 < M.length)) = false := by rw [List.take_of_length_le (by omega)]; rw [List.take_length] at hp; exact hp
      by_cases h18 : 18 < L.length
      · have HT := Lib.hid (show LargeS L = true by unfold LargeS; rw [hlt20, decide_eq_true h18]; rfl)
        have hd18 : decide ((18 : Int) < (L.length : Int)) = true := by simp; omega
        clear hp h hlt20
        go_wp2
        go_ret
        exact ⟨ret_eq (congrArg Value.bool (by rw [HR.out, HT.out])), rfl⟩
      · have HT := Lib.hid (show LargeS L = false by unfold LargeS; rw [hlt20, decide_eq_false h18]; rfl)
        have hd18 : decide ((18 : Int) < (L.length : Int)) = false := by simp; omega
        clear hp h hlt20
        go_wp2
        go_ret
        exact ⟨ret_eq (congrArg Value.bool (by rw [HR.out, HT.out])), rfl⟩
end Go.Proofs.YtdcinifcpaldiaaGreatDoor
