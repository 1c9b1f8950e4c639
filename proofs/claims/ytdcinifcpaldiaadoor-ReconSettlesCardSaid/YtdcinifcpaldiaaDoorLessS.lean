/- Both Less of sketches. No statement is proved here. -/
import Derived.Test.YtdcinifcpaldiaaDoorSketch
import Derived.Test.YtdcinifcpaldiaaDoorLesses
namespace Go.Proofs.YtdcinifcpaldiaaDoor
open Go.RowKit

def lessS (A B : List (List Cell)) : List (List Cell) := List.zipWith lessC A B
def LikeS (A B : List (List Cell)) : Prop := A.length = 16 ∧ B.length = 16 ∧ A.map List.length = B.map List.length
instance (A B : List (List Cell)) : Decidable (LikeS A B) := by unfold LikeS; infer_instance
def lessR (A B : List (List Cell)) : List (List Cell) × Nat := if LikeS A B then (lessS A B, 0) else ([], 1)
theorem lessS_get {A B : List (List Cell)} {i : Nat} {M N : List Cell} (hM : A[i]? = some M) (hN : B[i]? = some N) : (lessS A B)[i]? = some (lessC M N) := by
  simp [lessS, List.getElem?_zipWith, hM, hN]
theorem lens_snoc {A B : List (List Cell)} {i : Nat} (h1 : i < A.length) (h2 : i < B.length) (h : (A.take i).map List.length = (B.take i).map List.length) (he : A[i].length = B[i].length) : (A.take (i + 1)).map List.length = (B.take (i + 1)).map List.length := by
  rw [List.take_succ_eq_append_getElem h1, List.take_succ_eq_append_getElem h2, List.map_append, List.map_append, h]
  simp [he]
theorem lens_at {A B : List (List Cell)} {i : Nat} (h1 : i < A.length) (h2 : i < B.length) (h : A.map List.length = B.map List.length) : A[i].length = B[i].length := by
  have := congrArg (fun l => l[i]?) h
  simp [List.getElem?_eq_getElem h1, List.getElem?_eq_getElem h2] at this
  exact this
theorem Sk.nil (w : World) (a : Option Addr) (c : Nat) : Sk w (.slice a 0 c) [] := ⟨[], rfl, Rd.nil _ _ _, fun i u M h => by simp at h⟩
set_option maxRecDepth 100000 in
set_option maxHeartbeats 2000000 in
theorem skLess_c (v1 v2 : Value) (A B : List (List Cell)) (w : World) (h1 : Sk w v1 A) (h2 : Sk w v2 B) (okA : ∀ M ∈ A, OkL M) (okB : ∀ M ∈ B, OkL M) (hl1 : A.length ≤ 1000) (hl2 : B.length ≤ 1000) (hA : ∀ M ∈ A, M.length ≤ 1000) :
    Calls Tryd.prog 58 #[v1, v2] w fun e w' => ∃ u, e = .returned (.tuple #[u, .int .i64 ((lessR A B).2 : Nat)]) ∧ Sk w' u (lessR A B).1 ∧ Only No w w' := by
  obtain ⟨a1, c1, rfl, -⟩ := h1.cases
  obtain ⟨a2, c2, rfl, -⟩ := h2.cases
  obtain ⟨x, hx⟩ : ∃ x, x = lessR A B := ⟨_, rfl⟩
  rw [← hx]
  have HX := Lib.hid hx
  clear hx
  have HOk := Lib.hid (And.intro okA okB)
  clear okA okB
  have hmk := make_sk
  by_cases e1 : A.length = 16
  · have hne1 : ((A.length : Int) != 16) = false := by simp; omega
    by_cases e2 : B.length = 16
    · have hne2 : ((B.length : Int) != 16) = false := by simp; omega
      have HLn := Lib.hid (And.intro e1 e2)
      clear e1 e2
      go_enter Tryd.func58, Tryd.ntmps58
      go_wp2
      generalize hW : w.alloc _ = w1
      have hB1 : Blk w1 w.heap.size (List.replicate 16 (Value.slice none 0 0)).toArray 42 := by rw [← hW]; exact Blk.new w _ _
      have hO1 : Only No w w1 := by rw [← hW]; exact (Only.refl _ _).alloc _
      clear hW
      have hz1 := hB1.lt
      go_loopw [21] (fun v21 wr => ∃ (i : Nat) (us : List Value), i ≤ 16 ∧ v21 = .int .i64 i ∧ us.length = 16 ∧ Blk wr w.heap.size us.toArray 42 ∧ (∀ (j : Nat) (u : Value) (M : List Cell), j < i → us[j]? = some u → (lessS A B)[j]? = some M → RdN 3 wr u M.length (fl encC M) ∧ u.ownBlock ≠ some w.heap.size) ∧ (A.take i).map List.length = (B.take i).map List.length ∧ Only (· = w.heap.size) w1 wr) (fun v21 _ => 16 - (intOf v21).toNat)
      case atStart => exact ⟨0, _, by omega, rfl, by simp, hB1, fun j u M hj _ => by omega, by simp, Only.refl _ _⟩
      case round =>
        obtain ⟨i, us, hi, rfl, hus, hB, hrow, hln, hO⟩ := hrel
        have hOw : Only (fun k => w.heap.size ≤ k) w wr := hO1.of_no.trans (hO.mono (fun k _ e => by have e' : k = w.heap.size := e; show w.heap.size ≤ k; omega))
        by_cases hlt : i < 16
        · skip
          obtain ⟨-, b1, o1, t1, d1, rfl, hb1, k1, r1⟩ := (h1.from hOw (Nat.le_refl _)).at (show i < A.length by rw [HLn.out.1]; exact hlt)
          obtain ⟨-, b2, o2, t2, d2, rfl, hb2, k2, r2⟩ := (h2.from hOw (Nat.le_refl _)).at (show i < B.length by rw [HLn.out.2]; exact hlt)
          have hi1 : i < A.length := by rw [HLn.out.1]; exact hlt
          have hi2 : i < B.length := by rw [HLn.out.2]; exact hlt
          have hMl := hA _ (List.getElem_mem hi1)
          have hok1 := HOk.out.1 _ (List.getElem_mem hi1)
          have hok2 := HOk.out.2 _ (List.getElem_mem hi2)
          have HS := Lib.hid (fun he => lens_snoc hi1 hi2 hln he)
          have HNo := Lib.hid (fun (he : A[i].length ≠ B[i].length) => show lessR A B = ([], 1) from if_neg (fun hr => he (lens_at hi1 hi2 hr.2.2)))
          have HGet := Lib.hid (lessS_get (List.getElem?_eq_getElem hi1) (List.getElem?_eq_getElem hi2))
          have hj1 : (i : Int) < (A.length : Int) := by omega
          have hj2 : (i : Int) < (B.length : Int) := by omega
          have hi0 : (0 : Int) ≤ (i : Int) := by omega
          generalize A[i] = M at *
          generalize B[i] = N at *
          have HK := Lib.hid (fun (X : World) (h : Only No wr X) => And.intro h (And.intro ((h.cell (p := ⟨b1, o1 + i, none⟩) hb1 id).trans k1) ((h.cell (p := ⟨b2, o2 + i, none⟩) hb2 id).trans k2)))
          obtain ⟨uo, huo⟩ : ∃ uo, us[i]? = some uo := ⟨_, List.getElem?_eq_getElem (by omega)⟩
          have HB := Lib.hid (And.intro hB (And.intro hrow (And.intro hO (And.intro hus (And.intro huo hOw)))))
          by_cases he : M.length = N.length
          · have HLs := Lib.hid (fun (W : World) (h : Only No wr W) => Less_c _ _ M N W (r1.no h) (r2.no h) (by omega) he hok1 hok2)
            have HS2 := Lib.hid (HS.out he)
            have HLC := Lib.hid (lessC_len he)
            generalize lessC M N = D at *
            clear hB hrow hO hus huo hOw r1 r2 hok1 hok2 he HNo hln h1 h2
            go_wp2_with fail
            go_region_held3 (fun w' => Only No wr w' ∧ w'.cell? ⟨b1, o1 + i, none⟩ = some (.slice t1 M.length d1) ∧ w'.cell? ⟨b2, o2 + i, none⟩ = some (.slice t2 N.length d2))
              (first | exact HK.out _ (Only.refl _ _).drew | exact HK.out _ (Only.refl _ _) | (refine HK.out _ (Only.trans ?_ hOk); exact And.left (by assumption))) (first
              | (go_at_call 56; ((with_reducible refine (HLs.out _ (And.left (by assumption))).mono ?_); rintro e w2 ⟨t, rfl, ht, hOk⟩; have hOp : Only No wr _ := And.left (by assumption); obtain ⟨ta, tc, rfl, -⟩ := row_len ht; have HT := Lib.hid (And.intro ht (hOp.trans hOk)); have hB2 := (hOp.trans hOk).blk HB.out.1 id; have f2 := hB2.free i; have k2 := hB2.cell i uo (by simpa using HB.out.2.2.2.2.1); have HB2 := Lib.hid hB2; have hOpz := hOp.size; clear hB2 ht hOp))
              | fail)
            go_wp2
            go_roundw
            case rel =>
              refine ⟨i + 1, us.set i (.slice ta M.length tc), by omega, by go_num, by rw [List.length_set]; exact HB.out.2.2.2.1, ?_, fun j u Q hj hu hQ => ?_, HS2.out, (HB.out.2.2.1.trans HT.out.2.of_no).set1 _ _⟩
              · have := HB2.out.set i (.slice ta M.length tc)
                simpa using this
              · have hz2 := HB.out.1.lt
                have hOs : Only (· = w.heap.size) w2 (w2.setCell ⟨w.heap.size, i, none⟩ (.slice ta M.length tc)) := (Only.refl _ _).set1 _ _
                rw [List.getElem?_set] at hu
                by_cases hij : i = j
                · subst hij
                  rw [if_pos rfl, if_pos (by rw [HB.out.2.2.2.1]; exact hlt)] at hu
                  injection hu with hu
                  rw [HGet.out] at hQ
                  injection hQ with hQ
                  subst hu hQ
                  have hne : ∀ b, (Value.slice ta M.length tc).ownBlock = some b → b ≠ w.heap.size := fun b hb => by have := (HT.out.1.lt b hb).1; omega
                  refine ⟨?_, fun e => hne _ e rfl⟩
                  rw [HLC.out]
                  exact (RdN.of_row HT.out.1).only hOs (fun b hb _ e => hne b hb e)
                · rw [if_neg hij] at hu
                  have := HB.out.2.1 j u Q (by omega) hu hQ
                  exact ⟨(this.1.no HT.out.2).only hOs (fun b hb _ e => this.2 (by rw [hb, show b = w.heap.size from e])), this.2⟩
            case measure => simp [intOf]; omega
          · obtain rfl : x = ([], 1) := HX.out.trans (HNo.out he)
            have HLs := Lib.hid (fun (W : World) => Less_no t1 t2 M.length N.length d1 d2 W he)
            clear hB hrow hO hus huo hOw r1 r2 hok1 hok2 he HNo hln h1 h2 HGet HS
            go_wp2_with fail
            go_region_held3 (fun w' => Only No wr w' ∧ w'.cell? ⟨b1, o1 + i, none⟩ = some (.slice t1 M.length d1) ∧ w'.cell? ⟨b2, o2 + i, none⟩ = some (.slice t2 N.length d2))
              (first | exact HK.out _ (Only.refl _ _).drew | exact HK.out _ (Only.refl _ _) | (refine HK.out _ (Only.trans ?_ hOk); exact And.left (by assumption))) (first
              | (go_at_call 56; ((with_reducible refine (HLs.out _).mono ?_); rintro e w2 ⟨rfl, rfl⟩))
              | fail)
            go_wp2
            go_ret2
            exact ⟨_, rfl, Sk.nil _ _ _, HB.out.2.2.2.2.2.mono (fun k hk e => by have e' : w.heap.size ≤ k := e; exfalso; omega) |>.trans (And.left (by assumption))⟩
        · obtain rfl : i = 16 := by omega
          have eA : A.take 16 = A := List.take_of_length_le (by rw [HLn.out.1]; exact Nat.le_refl _)
          have eB : B.take 16 = B := List.take_of_length_le (by rw [HLn.out.2]; exact Nat.le_refl _)
          rw [eA, eB] at hln
          obtain rfl : x = (lessS A B, 0) := HX.out.trans (if_pos ⟨HLn.out.1, HLn.out.2, hln⟩)
          have hll : (lessS A B).length = 16 := by unfold lessS; rw [List.length_zipWith, HLn.out.1, HLn.out.2]; rfl
          have HB := Lib.hid (And.intro hB (And.intro hrow (And.intro hO (And.intro hus (And.intro hll hOw)))))
          clear hB hrow hO hus hll hOw eA eB hln h1 h2
          go_wp2
          go_ret2
          refine ⟨_, rfl, ⟨us, by rw [HB.out.2.2.2.1, HB.out.2.2.2.2.1], ?_, fun j u M hu hM => ?_⟩, HB.out.2.2.2.2.2.mono (fun k hk e => by have e' : w.heap.size ≤ k := e; exfalso; omega)⟩
          · have := Rd.of_blk HB.out.1 (cap := 16) (by rw [HB.out.2.2.2.1]; exact Nat.le_refl _)
            rw [HB.out.2.2.2.1] at this
            exact this
          · exact (HB.out.2.1 j u M (by have := (List.getElem?_eq_some_iff.1 hu).1; rw [HB.out.2.2.2.1] at this; exact this) hu hM).1
    · have hne2 : ((B.length : Int) != 16) = true := by simp; omega
      obtain rfl : x = ([], 1) := HX.out.trans (if_neg (fun hr => e2 hr.2.1))
      clear e1 e2 h1 h2
      go_enter Tryd.func58, Tryd.ntmps58
      go_wp2
      go_ret2
      exact ⟨_, rfl, Sk.nil _ _ _, Only.refl _ _⟩
  · have hne1 : ((A.length : Int) != 16) = true := by simp; omega
    obtain rfl : x = ([], 1) := HX.out.trans (if_neg (fun hr => e1 hr.1))
    clear e1 h1 h2
    go_enter Tryd.func58, Tryd.ntmps58
    go_wp2
    go_ret2
    exact ⟨_, rfl, Sk.nil _ _ _, Only.refl _ _⟩
theorem like_skL (a b : List Nat) : LikeS (skL a) (skL b) := by
  refine ⟨skL_len a, skL_len b, ?_⟩
  unfold skL
  rw [List.map_map, List.map_map]
  apply List.map_congr_left
  intro f _
  simp
theorem lessR_skL (a b : List Nat) : lessR (skL a) (skL b) = (lessS (skL a) (skL b), 0) := if_pos (like_skL a b)
theorem lessS_len (a b : List Nat) : (lessS (skL a) (skL b)).length = 16 := by unfold lessS; rw [List.length_zipWith, skL_len, skL_len]; rfl
theorem lessS_mem {a b : List Nat} {M : List Cell} (hM : M ∈ lessS (skL a) (skL b)) : ∃ f, M = lessC (makeC 12 (onF f a)) (makeC 12 (onF f b)) := by
  obtain ⟨i, hi, rfl⟩ := List.mem_iff_getElem.1 hM
  have hi16 : i < 16 := by rw [lessS_len] at hi; exact hi
  have := lessS_get (skL_get a hi16) (skL_get b hi16)
  rw [List.getElem?_eq_getElem hi] at this
  injection this with this
  exact ⟨i, this⟩
theorem lessS_12 {a b : List Nat} : ∀ M ∈ lessS (skL a) (skL b), M.length = 12 := by
  intro M hM
  obtain ⟨f, rfl⟩ := lessS_mem hM
  rw [lessC_len (by rw [makeC_len, makeC_len]), makeC_len]
theorem lessS_ok {a b : List Nat} (ha : ∀ x ∈ a, W64 x) (hb : ∀ x ∈ b, W64 x) : ∀ M ∈ lessS (skL a) (skL b), OkL M := by
  intro M hM
  obtain ⟨f, rfl⟩ := lessS_mem hM
  exact lessC_ok (makeC_ok (fun x h => ha x (onF_sub f a x h))) (makeC_ok (fun x h => hb x (onF_sub f b x h)))
end Go.Proofs.YtdcinifcpaldiaaDoor
