/- cell.may, Size, Places, Check, and the document's. Tables of cells, plain. No statement is proved here. -/
import Derived.Test.YtdcinifcpaldiaaDoorBitsX
import Derived.Test.YtdcinifcpaldiaaDoorTells0

namespace Go.Proofs.YtdcinifcpaldiaaDoor
open Go.RowKit

/-- May a table have so many cells? -/
def May (m : Int) : Prop := 3 ≤ m ∧ m ≤ 4095 ∧ m % 3 = 0
theorem may_of {k : Nat} (h1 : 1 ≤ k) (h2 : k ≤ 1365) : May ((3 * k : Nat) : Int) := ⟨by omega, by omega, by omega⟩
theorem may_k {m : Int} (h : May m) : ∃ k : Nat, 1 ≤ k ∧ k ≤ 1365 ∧ m = ((3 * k : Nat) : Int) := by
  obtain ⟨h1, h2, h3⟩ := h
  exact ⟨(m / 3).toNat, by omega, by omega, by omega⟩
theorem may_yes (m : Int) (w : World) (h : May m) : Calls Tryd.prog 72 #[.int .i64 m] w fun e w' => e = .returned (.bool true) ∧ w = w' := by
  obtain ⟨h1, h2, h3⟩ := h
  have h4 : (m % 3 == 0) = true := by simp [h3]
  clear h3
  go_enter Tryd.func72, Tryd.ntmps72
  go_wp2
  go_ret
  exact ⟨rfl, rfl⟩
theorem rmay_yes (m : Int) (w : World) (h : May m) : Calls Tryd.prog 53 #[.int .i64 m] w fun e w' => e = .returned (.bool true) ∧ w = w' := by
  obtain ⟨h1, h2, h3⟩ := h
  have h4 : (m % 3 == 0) = true := by simp [h3]
  clear h3
  go_enter Tryd.func53, Tryd.ntmps53
  go_wp2
  go_ret
  exact ⟨rfl, rfl⟩
theorem may_no (m : Int) (w : World) (h : ¬ May m) : Calls Tryd.prog 72 #[.int .i64 m] w fun e w' => e = .returned (.bool false) ∧ w = w' := by
  by_cases h1 : 3 ≤ m
  · by_cases h2 : m ≤ 4095
    · have h4 : (m % 3 == 0) = false := by simp; exact fun e => h ⟨h1, h2, e⟩
      clear h
      go_enter Tryd.func72, Tryd.ntmps72
      go_wp2
      go_ret
      exact ⟨rfl, rfl⟩
    · clear h
      go_enter Tryd.func72, Tryd.ntmps72
      go_wp2
      go_ret
      exact ⟨rfl, rfl⟩
  · clear h
    go_enter Tryd.func72, Tryd.ntmps72
    go_wp2
    go_ret
    exact ⟨rfl, rfl⟩
theorem rmay_no (m : Int) (w : World) (h : ¬ May m) : Calls Tryd.prog 53 #[.int .i64 m] w fun e w' => e = .returned (.bool false) ∧ w = w' := by
  by_cases h1 : 3 ≤ m
  · by_cases h2 : m ≤ 4095
    · have h4 : (m % 3 == 0) = false := by simp; exact fun e => h ⟨h1, h2, e⟩
      clear h
      go_enter Tryd.func53, Tryd.ntmps53
      go_wp2
      go_ret
      exact ⟨rfl, rfl⟩
    · clear h
      go_enter Tryd.func53, Tryd.ntmps53
      go_wp2
      go_ret
      exact ⟨rfl, rfl⟩
  · clear h
    go_enter Tryd.func53, Tryd.ntmps53
    go_wp2
    go_ret
    exact ⟨rfl, rfl⟩
/-- n, no lower than 3 and no higher than 4095. -/
def c3 (n : Int) : Nat := (min (max n 3) 4095).toNat
def sizeN (n : Int) : Nat := (c3 n + 2) / 3 * 3
theorem c3_bd (n : Int) : 3 ≤ c3 n ∧ c3 n ≤ 4095 ∧ min (max n 3) 4095 = (c3 n : Int) := by unfold c3; omega
theorem Size_c (n : Int) (w : World) : Calls Tryd.prog 44 #[.int .i64 n] w fun e w' => e = .returned (.int .i64 (sizeN n : Nat)) ∧ w = w' := by
  obtain ⟨h1, h2, h3⟩ := c3_bd n
  have hs : (sizeN n : Int) = ((c3 n : Int) + 3 - 1) / 3 * 3 := by unfold sizeN; omega
  have HS := Lib.hid hs
  clear hs
  generalize sizeN n = r at *
  generalize c3 n = c at *
  go_enter Tryd.func44, Tryd.ntmps44
  go_wp2
  go_ret
  exact ⟨ret_eq (congrArg (Value.int .i64) (by rw [HS.out])), rfl⟩
set_option maxHeartbeats 1000000 in
theorem rSize_c (n : Int) (w : World) : Calls Tryd.prog 45 #[.int .i64 n] w fun e w' => e = .returned (.int .i64 (sizeN n : Nat)) ∧ w = w' := by
  obtain ⟨h1, h2, h3⟩ := c3_bd n
  have hs : sizeN n = (c3 n + 2) / 3 * 3 := rfl
  have HS := Lib.hid hs
  clear hs
  generalize sizeN n = r at *
  generalize c3 n = c at *
  go_enter Tryd.func45, Tryd.ntmps45
  go_wp2
  clear h3
  go_loop [3] (fun v3 => ∃ j : Nat, c ≤ j ∧ j ≤ (c + 2) / 3 * 3 ∧ v3 = .int .i64 j) (fun v3 => 5000 - (intOf v3).toNat)
  case atStart => exact ⟨c, by omega, by omega, rfl⟩
  case round =>
    obtain ⟨j, hj1, hj2, rfl⟩ := hrel
    by_cases h0 : j % 3 = 0
    · have hb : ((j : Int) % 3 != 0) = false := by simp; omega
      have e : j = r := by rw [HS.out]; omega
      have HE := Lib.hid e
      clear e h0 hj1 hj2
      go_wp2
      go_ret
      exact ⟨ret_eq (congrArg (Value.int .i64) (by rw [HE.out])), rfl⟩
    · have hb : ((j : Int) % 3 != 0) = true := by simp; omega
      have hj3 : j + 1 ≤ (c + 2) / 3 * 3 := by omega
      have HJ := Lib.hid hj3
      have hjb : j ≤ 5000 := by omega
      clear h0 hj3 hj2
      go_wp2
      go_round
      case rel => exact ⟨j + 1, by omega, HJ.out, by go_num⟩
      case measure => have := HJ.out; simp [intOf]; omega
def chk (x : Nat) : Nat := wordN 4 x
theorem Check_c (x : Nat) (w : World) (hx : W64 x) : Calls Tryd.prog 120 #[.int .u64 (x : Int)] w fun e w' => e = .returned (.int .u64 (chk x : Nat)) ∧ Only No w w' := by
  have H := Lib.hid (Word_c 4 x w (by unfold W64; omega) hx)
  have e : chk x = wordN 4 x := rfl
  rw [e]
  clear e
  generalize wordN 4 x = r at *
  go_enter Tryd.func120, Tryd.ntmps120
  go_wp2_with (go_at_call 32; refine H.out.mono ?_; rintro e w' ⟨rfl, hO⟩)
  go_ret
  exact ⟨rfl, hO⟩
theorem rCheck_c (x : Nat) (w : World) (hx : W64 x) : Calls Tryd.prog 88 #[.int .u64 (x : Int)] w fun e w' => e = .returned (.int .u64 (chk x : Nat)) ∧ w = w' := by
  have H := Lib.hid (rWord_c 4 x w (by unfold W64; omega) hx)
  have e : chk x = wordN 4 x := rfl
  rw [e]
  clear e
  generalize wordN 4 x = r at *
  go_enter Tryd.func88, Tryd.ntmps88
  go_wp2_with (go_at_call 34; refine H.out.mono ?_; rintro e w' ⟨rfl, rfl⟩)
  go_ret
  exact ⟨rfl, rfl⟩
/-- The i-th place of a number in a table of three times k cells. -/
def place (k x i : Nat) : Nat := k * i + wordN (i + 1) x % k
theorem place_lt {k : Nat} (hk : 1 ≤ k) (x i : Nat) : place k x i < k * i + k := by
  have := Nat.mod_lt (wordN (i + 1) x) (show k > 0 by omega)
  unfold place; omega
end Go.Proofs.YtdcinifcpaldiaaDoor

namespace Go.Proofs.YtdcinifcpaldiaaDoor

abbrev Cell := Int × Nat × Nat
def w32 (n : Int) : Int := (n + 2147483648) % 4294967296 - 2147483648
def R32 (n : Int) : Prop := -2147483648 ≤ n ∧ n ≤ 2147483647
theorem w32_r (n : Int) : R32 (w32 n) := by unfold R32 w32; omega
theorem w32_self {n : Int} (h : R32 n) : w32 n = n := by unfold R32 at h; unfold w32; omega
theorem w32_wrap (n : Int) : IntKind.i32.wrap n = w32 n := by
  simp only [IntKind.wrap, IntKind.bits, IntKind.signed, w32]
  simp
  split <;> omega
def addC (x : Nat) (s : Int) (c : Cell) : Cell := (w32 (c.1 + s), c.2.1 ^^^ x, c.2.2 ^^^ chk x)
def subC (c d : Cell) : Cell := (w32 (c.1 - d.1), c.2.1 ^^^ d.2.1, c.2.2 ^^^ d.2.2)
def OkC (c : Cell) : Prop := R32 c.1 ∧ W64 c.2.1 ∧ W64 c.2.2
def zC : Cell := (0, 0, 0)
theorem zC_ok : OkC zC := ⟨by simp [zC, R32], by simp [zC, W64], by simp [zC, W64]⟩
theorem w64_chk (x : Nat) : W64 (chk x) := w64_word _ _
theorem addC_ok {x : Nat} {s : Int} {c : Cell} (hx : W64 x) (h : OkC c) : OkC (addC x s c) := ⟨w32_r _, w64_xor h.2.1 hx, w64_xor h.2.2 (w64_chk x)⟩
theorem addC_comm (x y : Nat) (s t : Int) (c : Cell) : addC y t (addC x s c) = addC x s (addC y t c) := by
  unfold addC
  simp only [Prod.mk.injEq]
  refine ⟨by unfold w32; omega, ?_, ?_⟩
  · rw [Nat.xor_assoc, Nat.xor_assoc, Nat.xor_comm x y]
  · rw [Nat.xor_assoc, Nat.xor_assoc, Nat.xor_comm (chk x) (chk y)]
theorem addC_back {x : Nat} {s : Int} {c : Cell} (h : R32 c.1) : addC x (-s) (addC x s c) = c := by
  obtain ⟨n, k, q⟩ := c
  unfold addC
  simp only [Prod.mk.injEq]
  refine ⟨by unfold R32 at h; unfold w32; simp only at h ⊢; omega, ?_, ?_⟩
  · rw [Nat.xor_assoc, Nat.xor_self, Nat.xor_zero]
  · rw [Nat.xor_assoc, Nat.xor_self, Nat.xor_zero]
theorem subC_add_left (x : Nat) (s : Int) (c d : Cell) : subC (addC x s c) d = addC x s (subC c d) := by
  unfold addC subC
  simp only [Prod.mk.injEq]
  refine ⟨by unfold w32; omega, ?_, ?_⟩
  · rw [Nat.xor_assoc, Nat.xor_assoc, Nat.xor_comm x]
  · rw [Nat.xor_assoc, Nat.xor_assoc, Nat.xor_comm (chk x)]
theorem subC_add_right (x : Nat) (s : Int) (c d : Cell) : subC c (addC x s d) = addC x (-s) (subC c d) := by
  unfold addC subC
  simp only [Prod.mk.injEq]
  refine ⟨by unfold w32; omega, ?_, ?_⟩
  · rw [Nat.xor_assoc]
  · rw [Nat.xor_assoc]
theorem subC_both (x : Nat) (s : Int) (c d : Cell) : subC (addC x s c) (addC x s d) = subC c d := by
  unfold addC subC
  simp only [Prod.mk.injEq]
  refine ⟨by unfold w32; omega, ?_, ?_⟩
  · rw [Nat.xor_assoc, Nat.xor_comm d.2.1 x, ← Nat.xor_assoc x, Nat.xor_self, Nat.zero_xor]
  · rw [Nat.xor_assoc, Nat.xor_comm d.2.2 (chk x), ← Nat.xor_assoc (chk x), Nat.xor_self, Nat.zero_xor]
theorem subC_self (c : Cell) : subC c c = zC := by
  unfold subC zC
  simp only [Nat.xor_self, Prod.mk.injEq, and_true]
  unfold w32; omega
theorem subC_ok {c d : Cell} (h : OkC c) (k : OkC d) : OkC (subC c d) := ⟨w32_r _, w64_xor h.2.1 k.2.1, w64_xor h.2.2 k.2.2⟩

def OkL (L : List Cell) : Prop := ∀ c ∈ L, OkC c
theorem OkL.get {L : List Cell} (h : OkL L) (i : Nat) : OkC (L.getD i zC) := by
  rw [List.getD_eq_getElem?_getD]
  cases hk : L[i]? with
  | none => exact zC_ok
  | some p => exact h p (List.mem_of_getElem? hk)
def modC (L : List Cell) (i x : Nat) (s : Int) : List Cell := L.set i (addC x s (L.getD i zC))
@[simp] theorem modC_len (L : List Cell) (i x : Nat) (s : Int) : (modC L i x s).length = L.length := by simp [modC]
theorem modC_ok {L : List Cell} {i x : Nat} {s : Int} (hx : W64 x) (h : OkL L) : OkL (modC L i x s) := by
  intro p hp
  rcases List.mem_or_eq_of_mem_set hp with hp | rfl
  · exact h p hp
  · exact addC_ok hx (h.get i)
theorem modC_get (L : List Cell) (i x j : Nat) (s : Int) : (modC L i x s)[j]? = if j = i then (L[j]?).map (addC x s) else L[j]? := by
  unfold modC
  rw [List.getElem?_set]
  by_cases h : i = j
  · subst h
    rw [if_pos rfl, if_pos rfl]
    by_cases hl : i < L.length
    · rw [if_pos hl, List.getElem?_eq_getElem hl, List.getD_eq_getElem?_getD, List.getElem?_eq_getElem hl]; rfl
    · rw [if_neg hl, List.getElem?_eq_none (by omega)]; rfl
  · rw [if_neg h, if_neg (fun e => h e.symm)]
theorem modC_comm (L : List Cell) (i j x y : Nat) (s t : Int) : modC (modC L i x s) j y t = modC (modC L j y t) i x s := by
  apply List.ext_getElem?
  intro n
  rw [modC_get, modC_get, modC_get, modC_get]
  by_cases h1 : n = i <;> by_cases h2 : n = j <;> simp only [h1, h2, if_true, if_false] <;> (try rfl)
  · rw [← h1, ← h2]
    cases L[n]? <;> simp [addC_comm x y s t]
  · subst h1
    simp [h2]
  · subst h2
    simp [h1]
theorem modC_back {L : List Cell} {i x : Nat} {s : Int} (h : OkL L) : modC (modC L i x s) i x (-s) = L := by
  apply List.ext_getElem?
  intro n
  rw [modC_get, modC_get]
  by_cases h1 : n = i
  · rw [if_pos h1, if_pos h1]
    cases hk : L[n]? with
    | none => rfl
    | some c => simp [addC_back (h c (List.mem_of_getElem? hk)).1]
  · rw [if_neg h1, if_neg h1]
/-- A number put into a table. -/
def putC (L : List Cell) (x : Nat) (s : Int) : List Cell := modC (modC (modC L (place (L.length / 3) x 0) x s) (place (L.length / 3) x 1) x s) (place (L.length / 3) x 2) x s
@[simp] theorem putC_len (L : List Cell) (x : Nat) (s : Int) : (putC L x s).length = L.length := by simp [putC]
theorem putC_ok {L : List Cell} {x : Nat} {s : Int} (hx : W64 x) (h : OkL L) : OkL (putC L x s) := modC_ok hx (modC_ok hx (modC_ok hx h))
theorem putC_mod (L : List Cell) (x y i : Nat) (s t : Int) : putC (modC L i y t) x s = modC (putC L x s) i y t := by
  unfold putC
  rw [modC_len, modC_comm L i, modC_comm _ i, modC_comm _ i]
theorem putC_comm (L : List Cell) (x y : Nat) (s t : Int) : putC (putC L x s) y t = putC (putC L y t) x s := by
  conv => lhs; rw [show putC L x s = modC (modC (modC L (place (L.length / 3) x 0) x s) (place (L.length / 3) x 1) x s) (place (L.length / 3) x 2) x s from rfl]
  rw [putC_mod, putC_mod, putC_mod]
  conv => rhs; rw [show ∀ M : List Cell, putC M x s = modC (modC (modC M (place (M.length / 3) x 0) x s) (place (M.length / 3) x 1) x s) (place (M.length / 3) x 2) x s from fun _ => rfl]
  rw [putC_len]
theorem putC_back {L : List Cell} {x : Nat} {s : Int} (hx : W64 x) (h : OkL L) : putC (putC L x s) x (-s) = L := by
  conv => lhs; rw [show putC (putC L x s) x (-s) = modC (modC (modC (putC L x s) (place ((putC L x s).length / 3) x 0) x (-s)) (place ((putC L x s).length / 3) x 1) x (-s)) (place ((putC L x s).length / 3) x 2) x (-s) from rfl]
  rw [putC_len]
  unfold putC
  rw [modC_comm _ (place (L.length / 3) x 2) (place (L.length / 3) x 0), modC_comm _ (place (L.length / 3) x 1) (place (L.length / 3) x 0), modC_back h, modC_comm _ (place (L.length / 3) x 2) (place (L.length / 3) x 1), modC_back h, modC_back h]

/-- One table less another. -/
def lessC (A B : List Cell) : List Cell := List.zipWith subC A B
theorem lessC_len {A B : List Cell} (h : A.length = B.length) : (lessC A B).length = A.length := by simp [lessC, h]
theorem lessC_ok {A B : List Cell} (hA : OkL A) (hB : OkL B) : OkL (lessC A B) := by
  intro c hc
  unfold lessC at hc
  obtain ⟨i, hi, rfl⟩ := List.mem_iff_getElem.1 hc
  rw [List.getElem_zipWith]
  exact subC_ok (hA _ (List.getElem_mem _)) (hB _ (List.getElem_mem _))
theorem lessC_get (A B : List Cell) (n : Nat) : (lessC A B)[n]? = match A[n]?, B[n]? with | some a, some b => some (subC a b) | _, _ => none := by
  unfold lessC
  rw [List.getElem?_zipWith]
  cases A[n]? <;> cases B[n]? <;> rfl
theorem lessC_mod_left (A B : List Cell) (i x : Nat) (s : Int) : lessC (modC A i x s) B = modC (lessC A B) i x s := by
  apply List.ext_getElem?
  intro n
  rw [modC_get, lessC_get, lessC_get, modC_get]
  by_cases h : n = i
  · rw [if_pos h, if_pos h]
    cases A[n]? <;> cases B[n]? <;> simp [subC_add_left]
  · rw [if_neg h, if_neg h]
theorem lessC_mod_right (A B : List Cell) (i x : Nat) (s : Int) : lessC A (modC B i x s) = modC (lessC A B) i x (-s) := by
  apply List.ext_getElem?
  intro n
  rw [modC_get, lessC_get, lessC_get, modC_get]
  by_cases h : n = i
  · rw [if_pos h, if_pos h]
    cases A[n]? <;> cases B[n]? <;> simp [subC_add_right]
  · rw [if_neg h, if_neg h]
theorem lessC_put_left {A B : List Cell} (h : A.length = B.length) (x : Nat) (s : Int) : lessC (putC A x s) B = putC (lessC A B) x s := by
  unfold putC
  rw [lessC_mod_left, lessC_mod_left, lessC_mod_left, lessC_len h]
theorem lessC_put_right {A B : List Cell} (h : A.length = B.length) (x : Nat) (s : Int) : lessC A (putC B x s) = putC (lessC A B) x (-s) := by
  unfold putC
  rw [lessC_mod_right, lessC_mod_right, lessC_mod_right, lessC_len h, h]
def zL (m : Nat) : List Cell := List.replicate m zC
theorem zL_ok (m : Nat) : OkL (zL m) := fun c hc => by rw [List.eq_of_mem_replicate hc]; exact zC_ok
@[simp] theorem zL_len (m : Nat) : (zL m).length = m := by simp [zL]
theorem lessC_self (A : List Cell) : lessC A A = zL A.length := by
  apply List.ext_getElem?
  intro n
  rw [lessC_get, zL, List.getElem?_replicate]
  by_cases h : n < A.length
  · rw [List.getElem?_eq_getElem h, if_pos h]; simp [subC_self]
  · rw [List.getElem?_eq_none (by omega), if_neg h]
/-- Numbers put into a table, one by one. -/
def putsC (L : List Cell) (r : List Nat) (s : Int) : List Cell := r.foldl (fun T x => putC T x s) L
@[simp] theorem putsC_len (L : List Cell) (r : List Nat) (s : Int) : (putsC L r s).length = L.length := by
  induction r generalizing L with
  | nil => rfl
  | cons x r ih => show (putsC (putC L x s) r s).length = _; rw [ih, putC_len]
theorem putsC_ok {L : List Cell} {r : List Nat} {s : Int} (hr : ∀ x ∈ r, W64 x) (h : OkL L) : OkL (putsC L r s) := by
  induction r generalizing L with
  | nil => exact h
  | cons x r ih => exact ih (fun y hy => hr y (by simp [hy])) (putC_ok (hr x (by simp)) h)
theorem putsC_perm {r q : List Nat} (h : r.Perm q) (L : List Cell) (s : Int) : putsC L r s = putsC L q s :=
  h.foldl_eq' (fun x _ y _ z => putC_comm z x y s s) L
theorem putsC_snoc (L : List Cell) (r : List Nat) (x : Nat) (s : Int) : putsC L (r ++ [x]) s = putC (putsC L r s) x s := by simp [putsC, List.foldl_append]
def makeC (m : Nat) (l : List Nat) : List Cell := putsC (zL m) (rise l) 1
@[simp] theorem makeC_len (m : Nat) (l : List Nat) : (makeC m l).length = m := by simp [makeC]
theorem makeC_ok {m : Nat} {l : List Nat} (h : ∀ x ∈ l, W64 x) : OkL (makeC m l) := putsC_ok (w64_rise h) (zL_ok m)
end Go.Proofs.YtdcinifcpaldiaaDoor
