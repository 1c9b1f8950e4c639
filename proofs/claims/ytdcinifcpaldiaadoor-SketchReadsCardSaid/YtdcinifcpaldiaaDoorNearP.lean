/- The difference of two sketches, plain; what is written is read as it was. No statement is proved here. -/
import Derived.Test.YtdcinifcpaldiaaDoorLessS
import Derived.Test.YtdcinifcpaldiaaDoorBytesC
import Derived.Test.YtdcinifcpaldiaaDoorKLaw
namespace Go.Proofs.YtdcinifcpaldiaaDoor
open Go.RowKit

theorem onF_rise (f : Nat) (l : List Nat) : rise (onF f l) = onF f (rise l) := rise_filter _ l
theorem mem_onF {f x : Nat} {l : List Nat} : x ∈ onF f l ↔ x ∈ l ∧ floorN x = f := by unfold onF; rw [List.mem_filter]; simp
theorem onF_sOut (f : Nat) (a b : List Nat) : sOut (onF f a) (onF f b) = onF f (sOut a b) := by
  unfold sOut
  rw [onF_rise]
  unfold onF
  rw [List.filter_filter, List.filter_filter]
  apply List.filter_congr
  intro x _
  by_cases hf : floorN x = f
  · have : isIn x (b.filter fun x => floorN x == f) = isIn x b := by
      unfold isIn
      apply decide_eq_decide.2
      rw [List.mem_filter]
      simp [hf]
    rw [this, Bool.and_comm]
  · have hz : (floorN x == f) = false := by simpa using hf
    rw [hz, Bool.false_and, Bool.and_false]
theorem lessS_skL {a b : List Nat} (ha : ∀ x ∈ a, W64 x) (hb : ∀ x ∈ b, W64 x) : lessS (skL a) (skL b) = lessS (skL (sOut a b)) (skL (sOut b a)) := by
  unfold lessS skL
  rw [List.zipWith_map, List.zipWith_map]
  have h : ∀ l : List Nat, List.zipWith (fun i j => lessC (makeC 12 (onF i a)) (makeC 12 (onF j b))) l l = List.zipWith (fun i j => lessC (makeC 12 (onF i (sOut a b))) (makeC 12 (onF j (sOut b a)))) l l := by
    intro l
    induction l with
    | nil => rfl
    | cons f l ih =>
      rw [List.zipWith_cons_cons, List.zipWith_cons_cons, ih, makeC_less (fun x h => ha x (onF_sub f a x h)) (fun x h => hb x (onF_sub f b x h)), onF_sOut, onF_sOut]
  exact h _
theorem like_skL (a b : List Nat) : LikeS (skL a) (skL b) := by
  refine ⟨skL_len a, skL_len b, ?_⟩
  unfold skL
  rw [List.map_map, List.map_map]
  apply List.map_congr_left
  intro f _
  simp
theorem lessR_skL (a b : List Nat) : lessR (skL a) (skL b) = (lessS (skL a) (skL b), 0) := if_pos (like_skL a b)
theorem lessS_len (a b : List Nat) : (lessS (skL a) (skL b)).length = 16 := by unfold lessS; rw [List.length_zipWith, skL_len, skL_len]; rfl
theorem lessS_mem {a b : List Nat} {M : List Cell} (hM : M ∈ lessS (skL a) (skL b)) : ∃ f, M = lessC (makeC 12 (onF f a)) (makeC 12 (onF f b)) := by
  obtain ⟨i, hi, rfl⟩ := List.mem_iff_getElem.1 hM
  have hi16 : i < 16 := by rw [lessS_len] at hi; exact hi
  have := lessS_get (skL_get a hi16) (skL_get b hi16)
  rw [List.getElem?_eq_getElem hi] at this
  injection this with this
  exact ⟨i, this⟩
theorem lessS_12 {a b : List Nat} : ∀ M ∈ lessS (skL a) (skL b), M.length = 12 := by
  intro M hM
  obtain ⟨f, rfl⟩ := lessS_mem hM
  rw [lessC_len (by rw [makeC_len, makeC_len]), makeC_len]
theorem lessS_ok {a b : List Nat} (ha : ∀ x ∈ a, W64 x) (hb : ∀ x ∈ b, W64 x) : ∀ M ∈ lessS (skL a) (skL b), OkL M := by
  intro M hM
  obtain ⟨f, rfl⟩ := lessS_mem hM
  exact lessC_ok (makeC_ok (fun x h => ha x (onF_sub f a x h))) (makeC_ok (fun x h => hb x (onF_sub f b x h)))
theorem zip_range (g h : Nat → List Cell) : List.zipWith lessC ((List.range 16).map g) ((List.range 16).map h) = (List.range 16).map fun f => lessC (g f) (h f) := by
  rw [List.zipWith_map]
  generalize List.range 16 = l
  induction l with
  | nil => rfl
  | cons f l ih => rw [List.zipWith_cons_cons, ih]; rfl
theorem skL_none : skL [] = (List.range 16).map fun _ => zL 12 := by
  unfold skL
  apply List.map_congr_left
  intro f _
  exact makeC_nil 12
theorem guess_none : guessL (lessS (skL []) (skL [])) = 0 := by
  refine guess_zero ?_
  unfold lessS
  rw [skL_none, zip_range]
  apply List.map_congr_left
  intro f _
  show lessC (zL 12) (zL 12) = zL 12
  rw [lessC_self, zL_len]
theorem guess_have {x : Nat} (hx : W64 x) : guessL (lessS (skL [x]) (skL [])) = 1 := by
  refine guess_one hx (.inl rfl) (floor_lt x) ?_
  unfold lessS
  rw [skL_none, skL_one, zip_range]
  apply List.map_congr_left
  intro f _
  show lessC (if floorN x = f then putC (zL 12) x 1 else zL 12) (zL 12) = _
  split
  · rw [lessC_put_left rfl, lessC_self, zL_len]
  · rw [lessC_self, zL_len]
theorem guess_want {x : Nat} (hx : W64 x) : guessL (lessS (skL []) (skL [x])) = 1 := by
  refine guess_one hx (.inr rfl) (floor_lt x) ?_
  unfold lessS
  rw [skL_none, skL_one, zip_range]
  apply List.map_congr_left
  intro f _
  show lessC (zL 12) (if floorN x = f then putC (zL 12) x 1 else zL 12) = _
  split
  · rw [lessC_put_right rfl, lessC_self, zL_len]
  · rw [lessC_self, zL_len]
theorem guess_near {a b : List Nat} (ha : ∀ x ∈ a, W64 x) (hb : ∀ x ∈ b, W64 x) (h : a.length + b.length ≤ 1) : guessL (lessS (skL a) (skL b)) = a.length + b.length := by
  rcases a with _ | ⟨x, _ | ⟨y, a⟩⟩
  · rcases b with _ | ⟨z, _ | ⟨t, b⟩⟩
    · exact guess_none
    · exact guess_want (hb z (by simp))
    · simp at h
  · rcases b with _ | ⟨z, b⟩
    · exact guess_have (ha x (by simp))
    · simp at h
      omega
  · simp at h
    omega
/-- So many tables that come: the tables, the error, the rest. -/
noncomputable def decGo : Nat → List Nat → List (List Cell) × Nat × List Nat
  | 0, r => ([], 0, r)
  | n + 1, r => if (bytesC 4096 r).2.1 ≠ 0 then ([], (bytesC 4096 r).2.1, []) else if (decK (bytesC 4096 r).1).2 ≠ 0 then ([], (decK (bytesC 4096 r).1).2, [])
    else if (decK (bytesC 4096 r).1).1.length ≠ 12 then ([], 1, []) else ((decK (bytesC 4096 r).1).1 :: (decGo n (bytesC 4096 r).2.2).1, (decGo n (bytesC 4096 r).2.2).2)
noncomputable def decS (b : List Nat) : List (List Cell) × Nat :=
  if (decGo 16 b).2.1 ≠ 0 then ([], (decGo 16 b).2.1) else if doneE 0 (decGo 16 b).2.2 ≠ 0 then ([], doneE 0 (decGo 16 b).2.2) else ((decGo 16 b).1, 0)
theorem bytesC_var {y r : List Nat} (h : y.length ≤ 4096) : bytesC 4096 (varL y.length ++ y ++ r) = (y, 0, r) := by
  unfold bytesC
  rw [List.append_assoc, numC_var h (by omega)]
  simp
theorem decGo_enc : ∀ {L : List (List Cell)} (r : List Nat), (∀ M ∈ L, OkL M) → (∀ M ∈ L, M.length = 12) → decGo L.length (encS L ++ r) = (L, 0, r)
  | [], r, _, _ => by simp [decGo, encS]
  | M :: L, r, hok, h => by
    have h12 := h M (List.mem_cons_self ..)
    have hokM := hok M (List.mem_cons_self ..)
    have hl := enc12_len hokM h12
    have e : encS (M :: L) ++ r = varL (encK M).length ++ encK M ++ (encS L ++ r) := by simp [encS]
    have hb := bytesC_var (y := encK M) (r := encS L ++ r) (by omega)
    have hd := decK_enc hokM (show May (M.length : Int) by rw [h12]; exact ⟨by omega, by omega, by omega⟩)
    have ih := decGo_enc (L := L) r (fun d hd => hok d (List.mem_cons_of_mem _ hd)) (fun d hd => h d (List.mem_cons_of_mem _ hd))
    rw [e, List.length_cons, decGo, hb, hd, ih]
    simp [h12]
theorem decS_enc {L : List (List Cell)} (h16 : L.length = 16) (hok : ∀ M ∈ L, OkL M) (h : ∀ M ∈ L, M.length = 12) : decS (encS L) = (L, 0) := by
  have := decGo_enc (L := L) [] hok h
  rw [h16, List.append_nil] at this
  unfold decS
  rw [this]
  simp [doneE]
theorem encS_byte (L : List (List Cell)) : ∀ c ∈ encS L, c < 256 := by
  intro c hc
  unfold encS at hc
  obtain ⟨M, -, hM⟩ := List.mem_flatMap.1 hc
  rcases List.mem_append.1 hM with h | h
  · exact varL_byte _ c h
  · exact encK_byte M c h
end Go.Proofs.YtdcinifcpaldiaaDoor
