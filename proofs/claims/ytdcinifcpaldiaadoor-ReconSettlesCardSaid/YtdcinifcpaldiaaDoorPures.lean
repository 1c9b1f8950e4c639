/- cell.pure. The document's pure: the first cell that is. What is peeled of a table, in plain Lean. No statement is proved here. -/
import Derived.Test.YtdcinifcpaldiaaDoorLesses
import Derived.Test.YtdcinifcpaldiaaDoorCalm

namespace Go.Proofs.YtdcinifcpaldiaaDoor
open Go.RowKit Go.Maps

/-- Is a cell of one number alone? -/
def okCell (c : Cell) : Bool := (decide (c.1 = 1) || decide (c.1 = -1)) && decide (c.2.2 = chk c.2.1)
def pureB (k : Nat) (c : Cell) (i : Nat) : Bool := okCell c && (decide (place k c.2.1 0 = i) || decide (place k c.2.1 1 = i) || decide (place k c.2.1 2 = i))
theorem pureB_bad {k i : Nat} {c : Cell} (h : okCell c = false) : pureB k c i = false := by simp [pureB, h]
theorem pureB_good {k i : Nat} {c : Cell} (h : okCell c = true) : pureB k c i = (decide (place k c.2.1 0 = i) || decide (place k c.2.1 1 = i) || decide (place k c.2.1 2 = i)) := by simp [pureB, h]
set_option maxRecDepth 100000 in
set_option maxHeartbeats 2000000 in
theorem pure_c (v : Value) (A : List Cell) (k i : Nat) (w : World) (hR : RdN 3 w v A.length (fl encC A)) (hL : A.length = 3 * k) (hk : 1 ≤ k) (hk2 : k ≤ 1365) (hi : i < A.length) (hok : OkL A) :
    Calls Tryd.prog 90 #[v, .int .i64 (i : Int)] w fun e w' => e = .returned (.bool (pureB k (A.getD i zC) i)) ∧ Only No w w' := by
  obtain ⟨a1, cap1, rfl, hcap1⟩ := hR.cases
  obtain ⟨b1, o1, rfl, hbl1, c10, c11, c12⟩ := hR.threeD hi
  have hoc := hok.get i
  generalize A.getD i zC = c at *
  obtain ⟨N, x, y⟩ := c
  have HC := Lib.hid (fun w => Check_c x w hoc.2.1)
  have HP := Lib.hid (fun w => places_c k x w hk hk2 hoc.2.1)
  rw [← hL] at HP
  obtain ⟨p0, e0⟩ : ∃ p0, p0 = place k x 0 := ⟨_, rfl⟩
  obtain ⟨p1, e1⟩ : ∃ p1, p1 = place k x 1 := ⟨_, rfl⟩
  obtain ⟨p2, e2⟩ : ∃ p2, p2 = place k x 2 := ⟨_, rfl⟩
  rw [placesV_eq e0 e1 e2] at HP
  have hpb : ∀ h : okCell (N, x, y) = true, pureB k (N, x, y) i = (decide (p0 = i) || decide (p1 = i) || decide (p2 = i)) := fun h => by rw [pureB_good h, e0, e1, e2]
  have hpb2 : ∀ h : okCell (N, x, y) = false, pureB k (N, x, y) i = false := fun h => pureB_bad h
  generalize hr : pureB k (N, x, y) i = r at *
  have hokd : okCell (N, x, y) = ((decide (N = 1) || decide (N = -1)) && decide (y = chk x)) := rfl
  rw [hokd] at hpb hpb2
  generalize chk x = ck at *
  have HPB := Lib.hid (And.intro hpb hpb2)
  have hi0 : (0 : Int) ≤ (i : Int) := by omega
  have him : (i : Int) < (A.length : Int) := by omega
  clear hR hok hoc e0 e1 e2 hr hokd hpb hpb2 hL
  go_enter Tryd.func90, Tryd.ntmps90
  go_wp2_with fail
  generalize hW1 : w.alloc (.cells #[.int .i32 N, .int .u64 (x : Int), .int .u64 (y : Int)] 81) = w1
  have hO1 : Only No w w1 := by rw [← hW1]; exact (Only.refl _ _).alloc _
  have hbc : Blk w1 w.heap.size #[.int .i32 N, .int .u64 (x : Int), .int .u64 (y : Int)] 81 := by rw [← hW1]; exact Blk.new _ _ _
  have d0 := calm_cell (hbc.cell 0 _ rfl)
  have d1 := calm_cell (hbc.cell 1 _ rfl)
  have d2 := calm_cell (hbc.cell 2 _ rfl)
  have HC1 := Lib.hid (fun s : CalmW w1 => calls_calm (s := s) (HC.out s.at_))
  clear hW1 c10 c11 c12
  have hN : (N = 1 ∨ N = -1) ∨ (N ≠ 1 ∧ N ≠ -1) := by omega
  rcases hN with (rfl | rfl) | ⟨h1, h2⟩
  iterate 2
    · by_cases hy : y = ck
      · subst hy
        have hr : r = (decide (p0 = i) || decide (p1 = i) || decide (p2 = i)) := HPB.out.1 (by simp)
        have HR := Lib.hid hr
        clear HPB hr
        have hq0 : ((p0 : Int) == (i : Int)) = decide (p0 = i) := by by_cases h : p0 = i <;> simp [h] <;> omega
        have hq1 : ((p1 : Int) == (i : Int)) = decide (p1 = i) := by by_cases h : p1 = i <;> simp [h] <;> omega
        have hq2 : ((p2 : Int) == (i : Int)) = decide (p2 = i) := by by_cases h : p2 = i <;> simp [h] <;> omega
        obtain ⟨hx0, hx1, hx2⟩ := run_idx3 p0 p1 p2
        generalize decide (p0 = i) = B0 at *
        generalize decide (p1 = i) = B1 at *
        generalize decide (p2 = i) = B2 at *
        refine wp_region_calm (by kernel_rfl) (by kernel_rfl) ?_
        repeat (go_big_quiet_step ((go_at_call 120; exact HC1.out _)))
        refine wpQuiet_nil ?_
        rintro _ ⟨s, rfl⟩
        have hO2 := hO1.trans s.only
        have dd1 := d1 s
        generalize s.at_ = w2 at *
        clear s d0 d1 d2 HC1
        go_wp2_with (go_at_call 126; refine (HP.out _).mono ?_; rintro e w3 ⟨rfl, hO3⟩)
        have hO4 := hO2.trans hO3
        clear hO2 hO3 hO1 dd1
        go_loopw [6, 8, 34] (fun v6 _ v34 wr => wr = w3 ∧ ((v34 = .int .i64 0 ∧ v6 = .bool false) ∨ (v34 = .int .i64 1 ∧ v6 = .bool B0) ∨ (v34 = .int .i64 2 ∧ v6 = .bool (B0 || B1)) ∨ (v34 = .int .i64 3 ∧ v6 = .bool (B0 || B1 || B2)))) (fun _ _ v34 _ => 3 - (intOf v34).toNat)
        case atStart => exact ⟨rfl, .inl ⟨rfl, rfl⟩⟩
        case round =>
          obtain ⟨rfl, hc⟩ := hrel
          rcases hc with ⟨rfl, rfl⟩ | ⟨rfl, rfl⟩ | ⟨rfl, rfl⟩ | ⟨rfl, rfl⟩
          · cases B0
            iterate 2
              · go_wp2
                go_roundw
                case rel => exact ⟨by trivial, .inr (.inl ⟨rfl, rfl⟩)⟩
                case measure => simp [intOf]
          · cases B0 <;> cases B1
            iterate 4
              · go_wp2
                go_roundw
                case rel => exact ⟨by trivial, .inr (.inr (.inl ⟨rfl, rfl⟩))⟩
                case measure => simp [intOf]
          · cases B0 <;> cases B1 <;> cases B2
            iterate 8
              · go_wp2
                go_roundw
                case rel => exact ⟨by trivial, .inr (.inr (.inr ⟨rfl, rfl⟩))⟩
                case measure => simp [intOf]
          · go_wp2
            go_ret
            exact ⟨ret_eq (congrArg Value.bool HR.out.symm), hO4⟩
      · have hr : r = false := HPB.out.2 (by simp [hy])
        subst hr
        have hyz : ((y : Int) != (ck : Int)) = true := by simp; omega
        refine wp_region_calm (by kernel_rfl) (by kernel_rfl) ?_
        repeat (go_big_quiet_step ((go_at_call 120; exact HC1.out _)))
        refine wpQuiet_nil ?_
        rintro _ ⟨s, rfl⟩
        have hO2 := hO1.trans s.only
        generalize s.at_ = w2 at *
        go_wp2
        go_ret
        exact ⟨rfl, hO2⟩
  · have hr : r = false := HPB.out.2 (by simp [h1, h2])
    subst hr
    have hz1 : (N != 1) = true := by simp [h1]
    have hz2 : (N != -1) = true := by simp [h2]
    refine wp_region_calm (by kernel_rfl) (by kernel_rfl) ?_
    repeat (go_big_quiet_step ((go_at_call 120; exact HC1.out _)))
    refine wpQuiet_nil ?_
    rintro _ ⟨s, rfl⟩
    have hO2 := hO1.trans s.only
    generalize s.at_ = w2 at *
    go_wp2
    go_ret
    exact ⟨rfl, hO2⟩
end Go.Proofs.YtdcinifcpaldiaaDoor

namespace Go.Proofs.YtdcinifcpaldiaaDoor
open Go.RowKit Go.Maps

def pureAt (k : Nat) (A : List Cell) (i : Nat) : Bool := pureB k (A.getD i zC) i
def firstP (k : Nat) (A : List Cell) : Option Nat := (List.range A.length).find? (pureAt k A)
def firstI (k : Nat) (A : List Cell) : Int := ((firstP k A).map fun (n : Nat) => (n : Int)).getD (-1)
theorem firstP_some {k : Nat} {A : List Cell} {i : Nat} (hi : i < A.length) (h : pureAt k A i = true) (hb : ∀ j, j < i → pureAt k A j = false) : firstP k A = some i := by
  unfold firstP
  rw [List.find?_range_eq_some]
  exact ⟨h, by simpa using hi, fun j hj => by rw [hb j hj]; rfl⟩
theorem firstP_none {k : Nat} {A : List Cell} (h : ∀ j, j < A.length → pureAt k A j = false) : firstP k A = none := by
  unfold firstP
  rw [List.find?_eq_none]
  intro x hx
  rw [h x (by simpa using hx)]
  simp
end Go.Proofs.YtdcinifcpaldiaaDoor

namespace Go.Proofs.YtdcinifcpaldiaaDoor

def peelN (k : Nat) : Nat → List Cell → List Nat → List Nat → List Nat → Option (List Cell × List Nat × List Nat)
  | 0, L, _, o, p => some (L, o, p)
  | n + 1, L, t, o, p => match firstP k L with
    | none => some (L, o, p)
    | some i => if (L.getD i zC).2.1 ∈ t then none else
        peelN k n (putC L (L.getD i zC).2.1 (-(L.getD i zC).1)) (t ++ [(L.getD i zC).2.1])
          (if (L.getD i zC).1 = 1 then o ++ [(L.getD i zC).2.1] else o) (if (L.getD i zC).1 = 1 then p else p ++ [(L.getD i zC).2.1])
theorem peelN_none {k n : Nat} {L : List Cell} {t o p : List Nat} (h : firstP k L = none) : peelN k n L t o p = some (L, o, p) := by
  cases n with
  | zero => rfl
  | succ n => unfold peelN; rw [h]
theorem peelN_told {k n i : Nat} {L : List Cell} {t o p : List Nat} {N : Int} {x y : Nat} (h : firstP k L = some i) (hc : L.getD i zC = (N, x, y)) (hx : x ∈ t) : peelN k (n + 1) L t o p = none := by
  unfold peelN; rw [h]; simp only [hc]; rw [if_pos hx]
theorem peelN_one {k n i : Nat} {L : List Cell} {t o p : List Nat} {x y : Nat} (h : firstP k L = some i) (hc : L.getD i zC = (1, x, y)) (hx : x ∉ t) : peelN k (n + 1) L t o p = peelN k n (putC L x (-1)) (t ++ [x]) (o ++ [x]) p := by
  conv => lhs; unfold peelN
  rw [h]; simp only [hc]; rw [if_neg hx, if_pos trivial, if_pos trivial]
theorem peelN_other {k n i : Nat} {L : List Cell} {t o p : List Nat} {x y : Nat} (h : firstP k L = some i) (hc : L.getD i zC = (-1, x, y)) (hx : x ∉ t) : peelN k (n + 1) L t o p = peelN k n (putC L x 1) (t ++ [x]) o (p ++ [x]) := by
  conv => lhs; unfold peelN
  rw [h]; simp only [hc]; rw [if_neg hx, if_neg (by decide), if_neg (by decide)]; rfl
def finish (m : Nat) : Option (List Cell × List Nat × List Nat) → Bool × List Nat × List Nat
  | none => (false, [], [])
  | some (L, o, p) => if L = zL m then (true, rise o, rise p) else (false, [], [])
def peelF (k : Nat) (L : List Cell) : Bool × List Nat × List Nat := finish L.length (peelN k L.length L [] [] [])
theorem firstP_is {k i : Nat} {L : List Cell} (h : firstP k L = some i) : i < L.length ∧ pureAt k L i = true := by
  unfold firstP at h
  rw [List.find?_range_eq_some] at h
  exact ⟨by simpa using h.2.1, h.1⟩
theorem pureAt_num {k i : Nat} {L : List Cell} {N : Int} {x y : Nat} (h : pureAt k L i = true) (hc : L.getD i zC = (N, x, y)) : (N = 1 ∨ N = -1) ∧ y = chk x := by
  unfold pureAt pureB at h
  rw [hc] at h
  simp [okCell] at h
  exact h.1
theorem putsC_put (L : List Cell) (r : List Nat) (x : Nat) (s t : Int) : putsC (putC L x s) r t = putC (putsC L r t) x s := by
  induction r generalizing L with
  | nil => rfl
  | cons y r ih =>
    show putsC (putC (putC L x s) y t) r t = putC (putsC (putC L y t) r t) x s
    rw [putC_comm, ih]
/-- What is peeled, put again, gives the table. -/
theorem peelN_back {k : Nat} : ∀ {n : Nat} {L : List Cell} {t o p : List Nat} {L' : List Cell} {o' p' : List Nat}, OkL L → (∀ x ∈ t, W64 x) → peelN k n L t o p = some (L', o', p') →
    putsC (putsC L' o' 1) p' (-1) = putsC (putsC L o 1) p (-1) ∧ L'.length = L.length ∧ o'.length + p'.length ≤ o.length + p.length + n ∧ (∀ x ∈ o', x ∈ o ∨ W64 x) ∧ (∀ x ∈ p', x ∈ p ∨ W64 x) := by
  intro n
  induction n with
  | zero =>
    intro L t o p L' o' p' _ _ h
    simp [peelN] at h
    obtain ⟨rfl, rfl, rfl⟩ := h
    exact ⟨rfl, rfl, Nat.le_refl _, fun _ h => .inl h, fun _ h => .inl h⟩
  | succ n ih =>
    intro L t o p L' o' p' hL ht h
    cases hf : firstP k L with
    | none =>
      rw [peelN_none hf] at h
      simp at h
      obtain ⟨rfl, rfl, rfl⟩ := h
      exact ⟨rfl, rfl, by omega, fun _ h => .inl h, fun _ h => .inl h⟩
    | some i =>
      obtain ⟨-, hp⟩ := firstP_is hf
      obtain ⟨N, x, y, hc⟩ : ∃ N x y, L.getD i zC = (N, x, y) := ⟨_, _, _, rfl⟩
      have hx : W64 x := by have := (hL.get i).2.1; rw [hc] at this; exact this
      obtain ⟨hN, -⟩ := pureAt_num hp hc
      by_cases hxt : x ∈ t
      · rw [peelN_told hf hc hxt] at h; cases h
      · have ht' : ∀ y ∈ t ++ [x], W64 y := fun y hy => by
          rcases List.mem_append.1 hy with h | h
          · exact ht y h
          · simp at h; rw [h]; exact hx
        rcases hN with rfl | rfl
        · rw [peelN_one hf hc hxt] at h
          obtain ⟨h1, h2, h3, h4, h5⟩ := ih (putC_ok hx hL) ht' h
          refine ⟨?_, by rw [h2, putC_len], by simp at h3; omega, fun z hz => ?_, h5⟩
          · have hb := putC_back (s := -1) hx hL
            rw [Int.neg_neg] at hb
            rw [h1, putsC_snoc, ← putsC_put, hb]
          · rcases h4 z hz with h | h
            · rcases List.mem_append.1 h with h | h
              · exact .inl h
              · simp at h; exact .inr (h ▸ hx)
            · exact .inr h
        · rw [peelN_other hf hc hxt] at h
          obtain ⟨h1, h2, h3, h4, h5⟩ := ih (putC_ok hx hL) ht' h
          refine ⟨?_, by rw [h2, putC_len], by simp at h3; omega, h4, fun z hz => ?_⟩
          · have hb := putC_back (s := 1) hx hL
            rw [h1, putsC_snoc, ← putsC_put, ← putsC_put, hb]
          · rcases h5 z hz with h | h
            · rcases List.mem_append.1 h with h | h
              · exact .inl h
              · simp at h; exact .inr (h ▸ hx)
            · exact .inr h
theorem pure_zC (k i : Nat) : pureB k zC i = false := by
  have h : okCell zC = false := by
    show ((decide ((0 : Int) = 1) || decide ((0 : Int) = -1)) && decide ((0 : Nat) = chk 0)) = false
    simp
  exact pureB_bad h
theorem firstP_zL (k m : Nat) : firstP k (zL m) = none := firstP_none (fun j hj => by
  unfold pureAt
  have e : (zL m).getD j zC = zC := by
    rw [List.getD_eq_getElem?_getD]
    cases h : (zL m)[j]? with
    | none => rfl
    | some c => exact List.eq_of_mem_replicate (List.mem_of_getElem? h)
  rw [e]
  exact pure_zC k j)
theorem peelF_zL (k m : Nat) : peelF k (zL m) = (true, [], []) := by
  unfold peelF
  rw [peelN_none (firstP_zL k m)]
  simp [finish, rise]
/-- A table of one number alone. -/
theorem one_below {k x j : Nat} {s : Int} (hk : 1 ≤ k) (hj : j < place k x 0) : (putC (zL (3 * k)) x s).getD j zC = zC := by
  have h0 := place_lt hk x 0
  have h1 : k * 1 ≤ place k x 1 := by unfold place; omega
  have h2 : k * 2 ≤ place k x 2 := by unfold place; omega
  have e3 : 3 * k / 3 = k := by omega
  have hz : (zL (3 * k))[j]? = some zC := by unfold zL; rw [List.getElem?_replicate, if_pos (by omega)]
  rw [List.getD_eq_getElem?_getD]
  unfold putC
  rw [modC_get, modC_get, modC_get, zL_len, e3, if_neg (by omega), if_neg (by omega), if_neg (by omega), hz]
  rfl
theorem one_at {k x : Nat} {s : Int} (hk : 1 ≤ k) (hs : s = 1 ∨ s = -1) : (putC (zL (3 * k)) x s).getD (place k x 0) zC = (s, x, chk x) := by
  have h0 := place_lt hk x 0
  have h1 : k * 1 ≤ place k x 1 := by unfold place; omega
  have h2 : k * 2 ≤ place k x 2 := by unfold place; omega
  have e3 : 3 * k / 3 = k := by omega
  have hz : (zL (3 * k))[place k x 0]? = some zC := by unfold zL; rw [List.getElem?_replicate, if_pos (by omega)]
  rw [List.getD_eq_getElem?_getD]
  unfold putC
  rw [modC_get, modC_get, modC_get, zL_len, e3, if_neg (by omega), if_neg (by omega), if_pos rfl, hz]
  show addC x s zC = _
  unfold addC zC
  rcases hs with rfl | rfl <;> simp [w32]
theorem one_first {k x : Nat} {s : Int} (hk : 1 ≤ k) (hs : s = 1 ∨ s = -1) : firstP k (putC (zL (3 * k)) x s) = some (place k x 0) := by
  have h0 := place_lt hk x 0
  refine firstP_some (by simp; omega) ?_ (fun j hj => ?_)
  · unfold pureAt
    rw [one_at hk hs, pureB_good]
    · simp
    · rcases hs with rfl | rfl <;> simp [okCell]
  · unfold pureAt
    rw [one_below hk hj]
    exact pure_zC k j
theorem peelF_one {k x : Nat} (hk : 1 ≤ k) (hx : W64 x) : peelF k (putC (zL (3 * k)) x 1) = (true, [x], []) := by
  unfold peelF
  rw [putC_len, zL_len]
  obtain ⟨n, hn⟩ : ∃ n, 3 * k = n + 1 := ⟨3 * k - 1, by omega⟩
  have hb := putC_back (s := 1) hx (zL_ok (3 * k))
  have h := peelN_one (n := n) (t := []) (o := []) (p := []) (one_first (x := x) hk (.inl rfl)) (one_at hk (.inl rfl)) (by simp)
  rw [← hn] at h
  rw [h, hb, peelN_none (firstP_zL k _)]
  simp [finish, rise, ins]
theorem peelF_other {k x : Nat} (hk : 1 ≤ k) (hx : W64 x) : peelF k (putC (zL (3 * k)) x (-1)) = (true, [], [x]) := by
  unfold peelF
  rw [putC_len, zL_len]
  obtain ⟨n, hn⟩ : ∃ n, 3 * k = n + 1 := ⟨3 * k - 1, by omega⟩
  have hb := putC_back (s := -1) hx (zL_ok (3 * k))
  rw [Int.neg_neg] at hb
  have h := peelN_other (n := n) (t := []) (o := []) (p := []) (one_first (x := x) hk (.inr rfl)) (one_at hk (.inr rfl)) (by simp)
  rw [← hn] at h
  rw [h, hb, peelN_none (firstP_zL k _)]
  simp [finish, rise, ins]
end Go.Proofs.YtdcinifcpaldiaaDoor
