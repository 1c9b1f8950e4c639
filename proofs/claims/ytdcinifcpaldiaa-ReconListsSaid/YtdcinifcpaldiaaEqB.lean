/- Two buckets are alike, by the model's own word. No statement is proved here. -/
import Derived.Test.YtdcinifcpaldiaaTab
import Derived.Laws.StructEq
namespace Go.Proofs.Ytdcinifcpaldiaa
open Go.RowKit Go.Maps

def eqB (x y : Nat × Nat) : Bool := decide (x = y)
def aggB (x : Nat × Nat) : Value := .agg (encB x).toArray
theorem bucket_guard : Try.prog.eqGuardType Try.prog.depth 34 = false := by kernel_rfl
theorem rbucket_guard : Try.prog.eqGuardType Try.prog.depth 35 = false := by kernel_rfl
@[go_sem] theorem guard_bucket (op : BinOp) (x y : Operand) (xs ys : Array Value) (w : World) : (eqGuard op 34 x y (.agg xs) (.agg ys)).run Try.prog w = .ok () w := run_eqGuard_agg w op 34 x y xs ys bucket_guard
@[go_sem] theorem guard_rbucket (op : BinOp) (x y : Operand) (xs ys : Array Value) (w : World) : (eqGuard op 35 x y (.agg xs) (.agg ys)).run Try.prog w = .ok () w := run_eqGuard_agg w op 35 x y xs ys rbucket_guard
set_option maxRecDepth 100000 in
@[go_sem] theorem equalIn_bucket (x y a b : Nat) (w : World) : (Op.equalIn 10000 34 (.agg #[.int .i64 (x : Int), .int .u64 (y : Int)]) (.agg #[.int .i64 (a : Int), .int .u64 (b : Int)])).run Try.prog w = .ok (eqB (x, y) (a, b)) w := by
  have u3 := Try.underlying3
  have a3 := Try.isAgg3
  have z3 := Try.sizeOf3
  have u4 := Try.underlying32
  have a4 := Try.isAgg32
  have z4 := Try.sizeOf32
  have hS : Try.prog.underlying 34 = some (.struct (Try.prog.fieldsOf 34)) := by kernel_rfl
  have hp : Try.prog.stoodInHeld 34 = false := by kernel_rfl
  rw [show (10000 : Nat) = 9999 + 1 from rfl, run_equalIn_agg w 9999 34 _ _ hS hp]
  simp only [Program.fieldsOf, Try.underlying34]
  go_simp
  unfold eqB
  by_cases h1 : x = a <;> by_cases h2 : y = b <;> simp [h1, h2] <;> intros <;> omega
set_option maxRecDepth 100000 in
@[go_sem] theorem equalIn_rbucket (x y a b : Nat) (w : World) : (Op.equalIn 10000 35 (.agg #[.int .i64 (x : Int), .int .u64 (y : Int)]) (.agg #[.int .i64 (a : Int), .int .u64 (b : Int)])).run Try.prog w = .ok (eqB (x, y) (a, b)) w := by
  have u3 := Try.underlying3
  have a3 := Try.isAgg3
  have z3 := Try.sizeOf3
  have u4 := Try.underlying32
  have a4 := Try.isAgg32
  have z4 := Try.sizeOf32
  have hS : Try.prog.underlying 35 = some (.struct (Try.prog.fieldsOf 35)) := by kernel_rfl
  have hp : Try.prog.stoodInHeld 35 = false := by kernel_rfl
  rw [show (10000 : Nat) = 9999 + 1 from rfl, run_equalIn_agg w 9999 35 _ _ hS hp]
  simp only [Program.fieldsOf, Try.underlying35]
  go_simp
  unfold eqB
  by_cases h1 : x = a <;> by_cases h2 : y = b <;> simp [h1, h2] <;> intros <;> omega

theorem neq_bucket (x y a b : Nat) (w : World) : Sem.run Try.prog (binOp .neq 34 (.agg #[.int .i64 (x : Int), .int .u64 (y : Int)]) (.agg #[.int .i64 (a : Int), .int .u64 (b : Int)])) w = .ok (.bool (!eqB (x, y) (a, b))) w := by
  rw [run_neq_struct, equalIn_bucket]; rfl
theorem neq_rbucket (x y a b : Nat) (w : World) : Sem.run Try.prog (binOp .neq 35 (.agg #[.int .i64 (x : Int), .int .u64 (y : Int)]) (.agg #[.int .i64 (a : Int), .int .u64 (b : Int)])) w = .ok (.bool (!eqB (x, y) (a, b))) w := by
  rw [run_neq_struct, equalIn_rbucket]; rfl
/-- The places at which two tables differ. -/
def differs (a b : List (Nat × Nat)) (i : Nat) : Bool := !decide (a[i]? = b[i]?)
def differL (a b : List (Nat × Nat)) : List Nat := (List.range (max a.length b.length)).filter (differs a b)
def i64s (l : List Nat) : List Value := l.map fun (x : Nat) => Value.int .i64 (x : Int)
@[simp] theorem i64s_len (l : List Nat) : (i64s l).length = l.length := by simp [i64s]
theorem i64s_get {l : List Nat} {i : Nat} (h : i < l.length) : (i64s l)[i]? = some (.int .i64 (l[i] : Int)) := by simp [i64s, h]
theorem i64s_snoc (l : List Nat) (x : Nat) : i64s (l ++ [x]) = i64s l ++ [.int .i64 (x : Int)] := by simp [i64s]
theorem info_int : (Try.prog.info? 3).map (fun i => (i.zero, i.size, i.bytes)) = some (some (.int .i64 0), 1, 8) := by kernel_rfl
def upto (a b : List (Nat × Nat)) (i : Nat) : List Nat := (List.range i).filter (differs a b)
theorem upto_succ (a b : List (Nat × Nat)) (i : Nat) : upto a b (i + 1) = if differs a b i = true then upto a b i ++ [i] else upto a b i := by
  unfold upto
  rw [List.range_succ, filter_snoc]
theorem upto_len (a b : List (Nat × Nat)) (i : Nat) : (upto a b i).length ≤ i := Nat.le_trans (List.length_filter_le _ _) (by simp)
/-- The cells of a place of a table. -/
theorem RdN.pair {w : World} {a : Option Addr} {n cap : Nat} {l : List (Nat × Nat)} (h : RdN 2 w (.slice a n cap) l.length (fl encB l)) {i : Nat} (hi : i < l.length) :
    ∃ b off, a = some ⟨b, off, none⟩ ∧ b < w.heap.size ∧ w.cell? ⟨b, off + i * 2, none⟩ = some (.int .i64 (l[i].1 : Int)) ∧ w.cell? ⟨b, off + i * 2 + 1, none⟩ = some (.int .u64 (l[i].2 : Int)) := by
  obtain ⟨-, b, off, h2, h3, h4⟩ := RdN.el encB_len h (by omega)
  refine ⟨b, off, h2, h3, ?_, ?_⟩
  · have := h4 i hi 0 _ (by omega) rfl
    simpa using this
  · have := h4 i hi 1 _ (by omega) rfl
    rw [← Nat.add_assoc] at this
    simpa using this
set_option maxRecDepth 100000 in
set_option maxHeartbeats 2000000 in
theorem Differ_c (v1 v2 : Value) (T U : List (Nat × Nat)) (w : World) (hR1 : RdN 2 w v1 T.length (fl encB T)) (hR2 : RdN 2 w v2 U.length (fl encB U)) (hl : T.length ≤ 1000000) (hm : U.length ≤ 1000000) :
    Calls Try.prog 27 #[v1, v2] w fun e w' => ∃ u, e = .returned u ∧ w'.ownsRow w.heap.size 3 1 u (differL T U).length (i64s (differL T U)) ∧ Only No w w' := by
  obtain ⟨a1, cap1, rfl, hcap1⟩ := hR1.cases
  obtain ⟨a2, cap2, rfl, hcap2⟩ := hR2.cases
  obtain ⟨i0, hinf, hz0, hz1, hz2⟩ := info_parts info_int
  obtain ⟨M, hM⟩ : ∃ M : Nat, M = max T.length U.length := ⟨_, rfl⟩
  have hD : differL T U = upto T U M := by rw [hM]; rfl
  rw [hD]
  have hMl : M ≤ 1000000 := by omega
  have hM1 : T.length ≤ M := by omega
  have hM2 : U.length ≤ M := by omega
  have hMM : max (T.length : Int) (U.length : Int) = (M : Int) := by omega
  clear hD
  have HM := Lib.hid hM
  clear hM
  go_enter Try.func27, Try.ntmps27
  go_wp2
  clear hMM
  go_loopw [4, 5, 11] (fun v4 v5 v11 wr => ∃ i : Nat, i ≤ M ∧ v11 = .int .i64 i ∧ Bun wr w.heap.size [(3, 1, v4, (upto T U i).length, i64s (upto T U i))] ∧ Only (fun k => w.heap.size ≤ k) w wr) (fun _ _ v11 _ => M - (intOf v11).toNat)
  case atStart => exact ⟨0, by omega, rfl, (Bun.nil _ _).cons_nil _ _, Only.refl _ _⟩
  case round =>
    obtain ⟨i, hi, rfl, hB, hO⟩ := hrel
    obtain ⟨a4, c4, rfl⟩ := bun_is hB 0 rfl
    by_cases hlt : i < M
    · have hs := upto_succ T U i
      have hul := upto_len T U i
      have hlz : (i : Int) < (M : Int) := by omega
      have hd : differs T U i = !decide (T[i]? = U[i]?) := rfl
      generalize upto T U i = p at *
      rcases Nat.lt_or_ge i T.length with h1 | h1
      · rcases Nat.lt_or_ge i U.length with h2 | h2
        · obtain ⟨b1, o1, rfl, hbl1, hc10, hc11⟩ := hR1.pair h1
          obtain ⟨b2, o2, rfl, hbl2, hc20, hc21⟩ := hR2.pair h2
          have hc10 := (hO.cell (p := ⟨b1, o1 + i * 2, none⟩) hbl1 (by show ¬ w.heap.size ≤ b1; omega)).trans hc10
          have hc11 := (hO.cell (p := ⟨b1, o1 + i * 2 + 1, none⟩) hbl1 (by show ¬ w.heap.size ≤ b1; omega)).trans hc11
          have hc20 := (hO.cell (p := ⟨b2, o2 + i * 2, none⟩) hbl2 (by show ¬ w.heap.size ≤ b2; omega)).trans hc20
          have hc21 := (hO.cell (p := ⟨b2, o2 + i * 2 + 1, none⟩) hbl2 (by show ¬ w.heap.size ≤ b2; omega)).trans hc21
          have hd2 : differs T U i = !eqB (T[i].1, T[i].2) (U[i].1, U[i].2) := by rw [hd, List.getElem?_eq_getElem h1, List.getElem?_eq_getElem h2]; show (!decide (some T[i] = some U[i])) = !decide (T[i] = U[i]); simp only [Option.some.injEq]
          have h1z : ¬ ((T.length : Int) ≤ (i : Int)) := by omega
          have h2z : ¬ ((U.length : Int) ≤ (i : Int)) := by omega
          have h1d : decide (T.length ≤ i) = false := decide_eq_false (by omega)
          have h2d : decide (U.length ≤ i) = false := decide_eq_false (by omega)
          generalize T[i].1 = x1 at *
          generalize T[i].2 = x2 at *
          generalize U[i].1 = y1 at *
          generalize U[i].2 = y2 at *
          have hneq := neq_bucket x1 x2 y1 y2
          have h1n : (i : Int) < (T.length : Int) := by omega
          have h2n : (i : Int) < (U.length : Int) := by omega
          have hi0 : (0 : Int) ≤ (i : Int) := by omega
          have HS := Lib.hid (And.intro hs hd2)
          clear hs hd hd2
          cases he : eqB (x1, x2) (y1, y2) with
          | true =>
            rw [he] at hneq
            go_wp2_with fail
            go_quiet (fail)
            go_wp2
            go_roundw
            case rel => exact ⟨i + 1, by omega, by go_num, by rw [HS.out.1, HS.out.2, he, if_neg (by simp)]; exact hB.drewN _, hO.drewN _⟩
            case measure => simp [intOf]; omega
          | false =>
            rw [he] at hneq
            go_wp2_with fail
            go_quiet (fail)
            have hBq := hB.drewN nq
            go_wp2_with (at_builtin; refine wpList_append1 rfl (.tmp 35) (.tmp 37) 56 rfl w.heap.size 3 i0 (.int .i64 0) 1 8 Try.underlying56 hinf hz0 hz1 hz2 rfl (by decide) _ hBq 0 _ _ _ rfl rfl [.int .i64 (i : Int)] _ _ rfl rfl rfl (by simp [Value.oneCell']) (by unfold maxLen; omega) (by omega) (hO.drewN _).size ?_; intro g cap1 wn hBn hOn)
            go_roundw
            case rel =>
              refine ⟨i + 1, by omega, by go_num, ?_, (hO.drewN nq).trans hOn⟩
              rw [HS.out.1, HS.out.2, he, if_pos (by simp)]
              simpa [i64s_snoc, List.set] using hBn
            case measure => simp [intOf]; omega
        · have h1n : (i : Int) < (T.length : Int) := by omega
          have h1d : decide (T.length ≤ i) = false := decide_eq_false (by omega)
          have h2d : decide (U.length ≤ i) = true := decide_eq_true h2
          have hi0 : (0 : Int) ≤ (i : Int) := by omega
          have hd2 : differs T U i = true := by rw [hd, List.getElem?_eq_getElem h1, List.getElem?_eq_none h2]; rfl
          have HS := Lib.hid (And.intro hs hd2)
          clear hs hd hd2
          go_wp2_with fail
          go_quiet (fail)
          have hBq := hB.drewN nq
          go_wp2_with (at_builtin; refine wpList_append1 rfl (.tmp 35) (.tmp 37) 56 rfl w.heap.size 3 i0 (.int .i64 0) 1 8 Try.underlying56 hinf hz0 hz1 hz2 rfl (by decide) _ hBq 0 _ _ _ rfl rfl [.int .i64 (i : Int)] _ _ rfl rfl rfl (by simp [Value.oneCell']) (by unfold maxLen; omega) (by omega) (hO.drewN _).size ?_; intro g cap1 wn hBn hOn)
          go_roundw
          case rel =>
            refine ⟨i + 1, by omega, by go_num, ?_, (hO.drewN nq).trans hOn⟩
            rw [HS.out.1, HS.out.2, if_pos (by simp)]
            simpa [i64s_snoc, List.set] using hBn
          case measure => simp [intOf]; omega
      · have h2 : i < U.length := by
          rcases Nat.lt_or_ge i U.length with h2 | h2
          · exact h2
          · have := HM.out; omega
        have h1d : decide (T.length ≤ i) = true := decide_eq_true h1
        have hi0 : (0 : Int) ≤ (i : Int) := by omega
        have hd2 : differs T U i = true := by rw [hd, List.getElem?_eq_none h1, List.getElem?_eq_getElem h2]; rfl
        have HS := Lib.hid (And.intro hs hd2)
        clear hs hd hd2
        go_wp2_with fail
        go_quiet (fail)
        have hBq := hB.drewN nq
        go_wp2_with (at_builtin; refine wpList_append1 rfl (.tmp 35) (.tmp 37) 56 rfl w.heap.size 3 i0 (.int .i64 0) 1 8 Try.underlying56 hinf hz0 hz1 hz2 rfl (by decide) _ hBq 0 _ _ _ rfl rfl [.int .i64 (i : Int)] _ _ rfl rfl rfl (by simp [Value.oneCell']) (by unfold maxLen; omega) (by omega) (hO.drewN _).size ?_; intro g cap1 wn hBn hOn)
        go_roundw
        case rel =>
          refine ⟨i + 1, by omega, by go_num, ?_, (hO.drewN nq).trans hOn⟩
          rw [HS.out.1, HS.out.2, if_pos (by simp)]
          simpa [i64s_snoc, List.set] using hBn
        case measure => simp [intOf]; omega
    · have : i = M := by omega
      subst this
      go_wp2
      go_ret
      exact ⟨_, rfl, hB.owns 0 _ rfl, hO.mono (fun k hk hs => by omega)⟩
end Go.Proofs.Ytdcinifcpaldiaa
