/- The document's Write: the text of a setup and of events. No statement is proved here. -/
import Derived.Test.YtlilhdkaaendlaaWrite
namespace Go.Proofs.Ytlilhdkaaendlaa
open Go.RowKit

theorem fed_take {LL : List (List UInt8)} (h : ∀ x ∈ LL, x.length ≤ 1000000) (hn : LL.length ≤ 200) : (fedW LL).length ≤ 300000000 := by
  have h1 := fed_len 1000000 LL h
  have h2 : LL.length * (1000000 + 1) ≤ 200 * 1000001 := Nat.mul_le_mul_right _ hn
  omega
theorem toB_app (a b : List UInt8) : toB (a ++ b) = toB a ++ toB b := by
  refine ByteArray.ext (Array.ext' ?_)
  simp [toB, ByteArray.data_append]
theorem hd_fed (n : Int) : fedW [hdW n] = [114, 101, 112, 108, 105, 99, 97, 115, 32] ++ printM n ++ [10] := by
  simp [fedW, hdW, Lib.join, List.intercalate, List.intersperse]
theorem jn_fed (p : Int × Int) : jnW p ++ [10] = [106, 111, 105, 110, 32] ++ printM p.1 ++ [32] ++ printM p.2 ++ [10] := by
  simp [jnW, Lib.join, List.intercalate, List.intersperse]
theorem rl_fed (s : Su) : rlW s ++ [10] = [114, 117, 108, 101, 115, 32] ++ ansW s.back ++ [32] ++ ansW s.red ++ [32] ++ printM s.room ++ [32] ++ printM s.budget ++ [32] ++ printM s.seed ++ [10] := by
  simp [rlW, Lib.join, List.intercalate, List.intersperse]
set_option maxRecDepth 100000 in
set_option maxHeartbeats 6400000 in
theorem rwrite_c (su : Su) (hin : su.In) (pv : Value) (es : List (Ev × Value)) (lv : Value) (w : World) (hp : PrS w pv su.pairs) (hl : EvS w lv es) (hpn : su.pairs.length ≤ 30) (hen : es.length ≤ 90) :
    Calls Try.prog 25 #[suV su pv, lv] w fun x w' => x = .returned (.tuple #[.string (toB (writeM su (es.map Prod.fst)).1), .int .i64 (writeM su (es.map Prod.fst)).2]) ∧ Only No w w' := by
  have HLL := fun (h : su.seed ≤ 9223372036854775807) => Lib.hid (linesW_len hin (l := es.map Prod.fst) (fun e he => by
    obtain ⟨x, hx, rfl⟩ := List.mem_map.1 he
    obtain ⟨a, cap, -, -, -, hs⟩ := hl
    exact (hs x hx).1) h)
  obtain ⟨OUT, hOUT⟩ : ∃ o, o = writeM su (es.map Prod.fst) := ⟨_, rfl⟩
  rw [← hOUT]
  have HOUT := Lib.hid hOUT
  have HIN := Lib.hid hin
  have HP := Lib.hid hp
  have HLs := Lib.hid hl
  clear hOUT
  obtain ⟨a0, cap0, rfl, -⟩ := hl
  obtain ⟨n, prs, back, red, room, budget, seed⟩ := su
  obtain ⟨ap, capp, rfl, -⟩ := hp.form
  simp only at hpn ⊢
  clear hp hin
  have hB0 := Blk.new w #[.int .i64 n, .slice ap prs.length capp, .bool back, .bool red, .int .i64 room, .int .i64 budget, .int .u64 seed] 40
  have hOw : Only No w (w.alloc (.cells #[.int .i64 n, .slice ap prs.length capp, .bool back, .bool red, .int .i64 room, .int .i64 budget, .int .u64 seed] 40)) := (Only.refl _ _).alloc _
  have HA := Lib.hid (And.intro hB0 hOw)
  clear hB0 hOw
  by_cases b0 : n < 1
  · have HM : Hid (OUT = ([], 1)) := Lib.hid (by rw [HOUT.out]; unfold writeM okSu withinB; rw [if_neg (by simp only [Bool.and_eq_true, decide_eq_true_eq]; omega)])
    go_enter Try.func25, Try.ntmps25
    unfold suV suL
    go_upto_region 2 with fail
    generalize w.alloc (.cells #[.int .i64 n, .slice ap prs.length capp, .bool back, .bool red, .int .i64 room, .int .i64 budget, .int .u64 seed] 40) = Wa at *
    obtain ⟨hB0, hOw⟩ := HA.out
    have k0 : Wa.cell? ⟨w.heap.size, 0, none⟩ = some (.int .i64 n) := hB0.cell 0 _ rfl
    have k4 : Wa.cell? ⟨w.heap.size, 4, none⟩ = some (.int .i64 room) := hB0.cell 4 _ rfl
    have k5 : Wa.cell? ⟨w.heap.size, 5, none⟩ = some (.int .i64 budget) := hB0.cell 5 _ rfl
    have k6 : Wa.cell? ⟨w.heap.size, 6, none⟩ = some (.int .u64 seed) := hB0.cell 6 _ rfl
    clear hB0 hOw
    go_wp2_with fail
    go_ret2
    exact ⟨by rw [HM.out]; rfl, HA.out.2⟩
  by_cases b1 : 16 < n
  · have HM : Hid (OUT = ([], 1)) := Lib.hid (by rw [HOUT.out]; unfold writeM okSu withinB; rw [if_neg (by simp only [Bool.and_eq_true, decide_eq_true_eq]; omega)])
    go_enter Try.func25, Try.ntmps25
    unfold suV suL
    go_upto_region 2 with fail
    generalize w.alloc (.cells #[.int .i64 n, .slice ap prs.length capp, .bool back, .bool red, .int .i64 room, .int .i64 budget, .int .u64 seed] 40) = Wa at *
    obtain ⟨hB0, hOw⟩ := HA.out
    have k0 : Wa.cell? ⟨w.heap.size, 0, none⟩ = some (.int .i64 n) := hB0.cell 0 _ rfl
    have k4 : Wa.cell? ⟨w.heap.size, 4, none⟩ = some (.int .i64 room) := hB0.cell 4 _ rfl
    have k5 : Wa.cell? ⟨w.heap.size, 5, none⟩ = some (.int .i64 budget) := hB0.cell 5 _ rfl
    have k6 : Wa.cell? ⟨w.heap.size, 6, none⟩ = some (.int .u64 seed) := hB0.cell 6 _ rfl
    clear hB0 hOw
    go_wp2_with fail
    go_ret2
    exact ⟨by rw [HM.out]; rfl, HA.out.2⟩
  by_cases b2 : room < 0
  · have HM : Hid (OUT = ([], 1)) := Lib.hid (by rw [HOUT.out]; unfold writeM okSu withinB; rw [if_neg (by simp only [Bool.and_eq_true, decide_eq_true_eq]; omega)])
    go_enter Try.func25, Try.ntmps25
    unfold suV suL
    go_upto_region 2 with fail
    generalize w.alloc (.cells #[.int .i64 n, .slice ap prs.length capp, .bool back, .bool red, .int .i64 room, .int .i64 budget, .int .u64 seed] 40) = Wa at *
    obtain ⟨hB0, hOw⟩ := HA.out
    have k0 : Wa.cell? ⟨w.heap.size, 0, none⟩ = some (.int .i64 n) := hB0.cell 0 _ rfl
    have k4 : Wa.cell? ⟨w.heap.size, 4, none⟩ = some (.int .i64 room) := hB0.cell 4 _ rfl
    have k5 : Wa.cell? ⟨w.heap.size, 5, none⟩ = some (.int .i64 budget) := hB0.cell 5 _ rfl
    have k6 : Wa.cell? ⟨w.heap.size, 6, none⟩ = some (.int .u64 seed) := hB0.cell 6 _ rfl
    clear hB0 hOw
    go_wp2_with fail
    go_ret2
    exact ⟨by rw [HM.out]; rfl, HA.out.2⟩
  by_cases b3 : 2147483647 < room
  · have HM : Hid (OUT = ([], 1)) := Lib.hid (by rw [HOUT.out]; unfold writeM okSu withinB; rw [if_neg (by simp only [Bool.and_eq_true, decide_eq_true_eq]; omega)])
    go_enter Try.func25, Try.ntmps25
    unfold suV suL
    go_upto_region 2 with fail
    generalize w.alloc (.cells #[.int .i64 n, .slice ap prs.length capp, .bool back, .bool red, .int .i64 room, .int .i64 budget, .int .u64 seed] 40) = Wa at *
    obtain ⟨hB0, hOw⟩ := HA.out
    have k0 : Wa.cell? ⟨w.heap.size, 0, none⟩ = some (.int .i64 n) := hB0.cell 0 _ rfl
    have k4 : Wa.cell? ⟨w.heap.size, 4, none⟩ = some (.int .i64 room) := hB0.cell 4 _ rfl
    have k5 : Wa.cell? ⟨w.heap.size, 5, none⟩ = some (.int .i64 budget) := hB0.cell 5 _ rfl
    have k6 : Wa.cell? ⟨w.heap.size, 6, none⟩ = some (.int .u64 seed) := hB0.cell 6 _ rfl
    clear hB0 hOw
    go_wp2_with fail
    go_ret2
    exact ⟨by rw [HM.out]; rfl, HA.out.2⟩
  by_cases b4 : budget < 0
  · have HM : Hid (OUT = ([], 1)) := Lib.hid (by rw [HOUT.out]; unfold writeM okSu withinB; rw [if_neg (by simp only [Bool.and_eq_true, decide_eq_true_eq]; omega)])
    go_enter Try.func25, Try.ntmps25
    unfold suV suL
    go_upto_region 2 with fail
    generalize w.alloc (.cells #[.int .i64 n, .slice ap prs.length capp, .bool back, .bool red, .int .i64 room, .int .i64 budget, .int .u64 seed] 40) = Wa at *
    obtain ⟨hB0, hOw⟩ := HA.out
    have k0 : Wa.cell? ⟨w.heap.size, 0, none⟩ = some (.int .i64 n) := hB0.cell 0 _ rfl
    have k4 : Wa.cell? ⟨w.heap.size, 4, none⟩ = some (.int .i64 room) := hB0.cell 4 _ rfl
    have k5 : Wa.cell? ⟨w.heap.size, 5, none⟩ = some (.int .i64 budget) := hB0.cell 5 _ rfl
    have k6 : Wa.cell? ⟨w.heap.size, 6, none⟩ = some (.int .u64 seed) := hB0.cell 6 _ rfl
    clear hB0 hOw
    go_wp2_with fail
    go_ret2
    exact ⟨by rw [HM.out]; rfl, HA.out.2⟩
  by_cases b5 : 2147483647 < budget
  · have HM : Hid (OUT = ([], 1)) := Lib.hid (by rw [HOUT.out]; unfold writeM okSu withinB; rw [if_neg (by simp only [Bool.and_eq_true, decide_eq_true_eq]; omega)])
    go_enter Try.func25, Try.ntmps25
    unfold suV suL
    go_upto_region 2 with fail
    generalize w.alloc (.cells #[.int .i64 n, .slice ap prs.length capp, .bool back, .bool red, .int .i64 room, .int .i64 budget, .int .u64 seed] 40) = Wa at *
    obtain ⟨hB0, hOw⟩ := HA.out
    have k0 : Wa.cell? ⟨w.heap.size, 0, none⟩ = some (.int .i64 n) := hB0.cell 0 _ rfl
    have k4 : Wa.cell? ⟨w.heap.size, 4, none⟩ = some (.int .i64 room) := hB0.cell 4 _ rfl
    have k5 : Wa.cell? ⟨w.heap.size, 5, none⟩ = some (.int .i64 budget) := hB0.cell 5 _ rfl
    have k6 : Wa.cell? ⟨w.heap.size, 6, none⟩ = some (.int .u64 seed) := hB0.cell 6 _ rfl
    clear hB0 hOw
    go_wp2_with fail
    go_ret2
    exact ⟨by rw [HM.out]; rfl, HA.out.2⟩
  by_cases b6 : 9223372036854775807 < seed
  · have HM : Hid (OUT = ([], 1)) := Lib.hid (by rw [HOUT.out]; unfold writeM okSu withinB; rw [if_neg (by simp only [Bool.and_eq_true, decide_eq_true_eq]; omega)])
    go_enter Try.func25, Try.ntmps25
    unfold suV suL
    go_upto_region 2 with fail
    generalize w.alloc (.cells #[.int .i64 n, .slice ap prs.length capp, .bool back, .bool red, .int .i64 room, .int .i64 budget, .int .u64 seed] 40) = Wa at *
    obtain ⟨hB0, hOw⟩ := HA.out
    have k0 : Wa.cell? ⟨w.heap.size, 0, none⟩ = some (.int .i64 n) := hB0.cell 0 _ rfl
    have k4 : Wa.cell? ⟨w.heap.size, 4, none⟩ = some (.int .i64 room) := hB0.cell 4 _ rfl
    have k5 : Wa.cell? ⟨w.heap.size, 5, none⟩ = some (.int .i64 budget) := hB0.cell 5 _ rfl
    have k6 : Wa.cell? ⟨w.heap.size, 6, none⟩ = some (.int .u64 seed) := hB0.cell 6 _ rfl
    clear hB0 hOw
    go_wp2_with fail
    go_ret2
    exact ⟨by rw [HM.out]; rfl, HA.out.2⟩
  have b7 : seed ≤ 9223372036854775807 := by omega
  have HM : Hid (OUT = if evErr (es.map Prod.fst) = 0 then (fedW (linesW ⟨n, prs, back, red, room, budget, seed⟩ (es.map Prod.fst)), 0) else ([], evErr (es.map Prod.fst))) := Lib.hid (by
    rw [HOUT.out]
    unfold writeM
    rw [if_pos (show okSu ⟨n, prs, back, red, room, budget, seed⟩ = true by unfold okSu withinB; simp only [Bool.and_eq_true, decide_eq_true_eq]; omega)])
  have hll := (HLL b7).out
  have HSub : Hid (∀ x ∈ headsW ⟨n, prs, back, red, room, budget, seed⟩, x.length ≤ 1000000) := Lib.hid (fun x hx => hll x (List.mem_append_left _ hx))
  have HSub2 := Lib.hid hll
  clear hll
  have HNp := fun W : World => Lib.hid (rprint_c n W HIN.out.n.1 HIN.out.n.2)
  obtain ⟨PN, hPN⟩ : ∃ P : ByteArray, P = ⟨(printM n).toArray⟩ := ⟨_, rfl⟩
  rw [← hPN] at HNp
  have zPN : PN.size ≤ 3000 := by rw [hPN]; show (printM n).toArray.size ≤ 3000; rw [List.size_toArray]; exact prt_len _ HIN.out.n.1 HIN.out.n.2
  have HPN := Lib.hid hPN
  have m0 : ¬ 9223372036854775807 < 9 + PN.size := by omega
  have m1 : ¬ 9223372036854775807 < 9 + PN.size + 1 := by omega
  clear hPN
  go_enter Try.func25, Try.ntmps25
  unfold suV suL
  go_upto_region 2 with fail
  generalize w.alloc (.cells #[.int .i64 n, .slice ap prs.length capp, .bool back, .bool red, .int .i64 room, .int .i64 budget, .int .u64 seed] 40) = Wa at *
  obtain ⟨hB0, hOw⟩ := HA.out
  have k0 : Wa.cell? ⟨w.heap.size, 0, none⟩ = some (.int .i64 n) := hB0.cell 0 _ rfl
  have k4 : Wa.cell? ⟨w.heap.size, 4, none⟩ = some (.int .i64 room) := hB0.cell 4 _ rfl
  have k5 : Wa.cell? ⟨w.heap.size, 5, none⟩ = some (.int .i64 budget) := hB0.cell 5 _ rfl
  have k6 : Wa.cell? ⟨w.heap.size, 6, none⟩ = some (.int .u64 seed) := hB0.cell 6 _ rfl
  clear hB0 hOw
  go_wp2_with fail
  refine (HNp _).out.mono ?_
  rintro x w' ⟨rfl, rfl⟩
  have hF0 : (((⟨#[114, 101, 112, 108, 105, 99, 97, 115, 32]⟩ : ByteArray) ++ PN ++ (⟨#[10]⟩ : ByteArray))) = toB (fedW (hdW n :: (prs.take 0).map jnW)) := by
    rw [List.take_zero, List.map_nil, hd_fed, HPN.out]
    refine ByteArray.ext (Array.ext' ?_)
    simp [toB, ByteArray.data_append]
  have HF0 := Lib.hid hF0
  clear hF0 k0 k4 k5 k6
  go_upto_region 5 with fail
  generalize ((⟨#[114, 101, 112, 108, 105, 99, 97, 115, 32]⟩ : ByteArray) ++ PN ++ (⟨#[10]⟩ : ByteArray)) = F0 at *
  have hk1 : Wa.cell? ⟨w.heap.size, 1, none⟩ = some (.slice ap prs.length capp) := HA.out.1.cell 1 _ rfl
  go_wp2_with fail
  go_loopg [7, 8] (prs.length : Nat) (fun g v7 v8 wr => ∃ (i : Nat) (F : ByteArray), i + g = prs.length ∧ v8 = .int .i64 i ∧ v7 = .string F ∧ F = toB (fedW (hdW n :: (prs.take i).map jnW)) ∧ Only No Wa wr)
  case atStart => exact ⟨0, F0, by omega, rfl, rfl, HF0.out, Only.refl _ _⟩
  case round =>
    obtain ⟨i, F, hig, rfl, rfl, hF, hO⟩ := hrel
    have k1r := (hO.cell (p := ⟨w.heap.size, 1, none⟩) HA.out.1.lt id).trans hk1
    by_cases hlt : i < prs.length
    · have hFs : F.size ≤ 300000000 := by
        rw [hF, toB_size]
        refine fed_take (fun x hx => HSub.out x ?_) (by simp; omega)
        unfold headsW
        rcases List.mem_cons.1 hx with rfl | hx
        · simp
        · obtain ⟨p, hp, rfl⟩ := List.mem_map.1 hx
          simp only [List.cons_append, List.mem_cons, List.mem_append, List.mem_map]
          exact .inr (.inl ⟨p, List.mem_of_mem_take hp, rfl⟩)
      have HF := Lib.hid hF
      obtain ⟨ap', cp', hq, hcells⟩ := HP.out.form
      simp only [Value.slice.injEq] at hq
      obtain ⟨rfl, -, rfl⟩ := hq
      obtain ⟨b, off, rfl, hbl, p0, p1⟩ := hcells i hlt
      have hpin := HIN.out.pairs prs[i] (List.getElem_mem hlt)
      have hOr := HA.out.2.trans hO
      have p0' := (hOr.cell (p := ⟨b, off + i * 2, none⟩) hbl id).trans p0
      have p1' := (hOr.cell (p := ⟨b, off + i * 2 + 1, none⟩) hbl id).trans p1
      have hts : toB (fedW (hdW n :: (prs.take (i + 1)).map jnW)) = F ++ toB (jnW prs[i] ++ [10]) := by
        rw [hF, ← toB_app, List.take_succ_eq_append_getElem hlt, List.map_append, ← List.cons_append, List.map_cons, List.map_nil, fedW_snoc, List.append_assoc]
      have HTS := Lib.hid hts
      have hi0 : (0 : Int) ≤ (i : Int) := by omega
      have hil : (i : Int) < (prs.length : Int) := by omega
      generalize prs[i] = x at *
      obtain ⟨x1, x2⟩ := x
      simp only at hpin p0' p1' HTS
      rw [jn_fed] at HTS
      simp only at HTS
      obtain ⟨⟨hx0, hx1⟩, hy0, hy1⟩ := hpin
      have HN1 := fun W : World => Lib.hid (rprint_c x1 W (by omega) (by omega))
      have HN2 := fun W : World => Lib.hid (rprint_c x2 W (by omega) (by omega))
      have hw1 : IntKind.i64.wrap x1 = x1 := IntWalk.i64_in _ (by omega)
      have hw2 : IntKind.i64.wrap x2 = x2 := IntWalk.i64_in _ (by omega)
      have zX1 := prt_len x1 (by omega) (by omega)
      have zX2 := prt_len x2 (by omega) (by omega)
      obtain ⟨X1, hX1⟩ : ∃ P : ByteArray, P = ⟨(printM x1).toArray⟩ := ⟨_, rfl⟩
      obtain ⟨X2, hX2⟩ : ∃ P : ByteArray, P = ⟨(printM x2).toArray⟩ := ⟨_, rfl⟩
      rw [← hX1] at HN1
      rw [← hX2] at HN2
      have z1 : X1.size ≤ 3000 := by rw [hX1]; show (printM x1).toArray.size ≤ 3000; rw [List.size_toArray]; exact zX1
      have z2 : X2.size ≤ 3000 := by rw [hX2]; show (printM x2).toArray.size ≤ 3000; rw [List.size_toArray]; exact zX2
      have HXX := Lib.hid (And.intro hX1 hX2)
      have nn0 : ¬ 9223372036854775807 < F.size + 5 := by omega
      have nn1 : ¬ 9223372036854775807 < F.size + 5 + X1.size := by omega
      have nn2 : ¬ 9223372036854775807 < F.size + 5 + X1.size + 1 := by omega
      have nn3 : ¬ 9223372036854775807 < F.size + 5 + X1.size + 1 + X2.size := by omega
      have nn4 : ¬ 9223372036854775807 < F.size + 5 + X1.size + 1 + X2.size + 1 := by omega
      have HO := Lib.hid hO
      clear hF hO hts p0 p1 hcells hbl hOr hX1 hX2 hFs
      go_wp2_with fail
      refine wp_region_held_drew (S := fun w' => w'.cell? ⟨w.heap.size, 1, none⟩ = some (.slice (some ⟨b, off, none⟩) prs.length capp) ∧ w'.cell? ⟨b, off + i * 2, none⟩ = some (.int .u8 x1) ∧ w'.cell? ⟨b, off + i * 2 + 1, none⟩ = some (.int .u8 x2)) (by kernel_rfl) ⟨k1r, p0', p1'⟩ (fun hHeld => ?_)
      refine wpAnyH_take (i := 0) (v := .string F) rfl (by kernel_rfl) (by kernel_rfl) (by kernel_rfl) (fun _ _ _ h => h) (Or.inl ⟨by rfl, ?_⟩) hHeld ?_
      · intro W hSw
        go_simp
      try simp only [List.getElem_toArray, List.getElem_cons_zero, Act.put, List.setIfInBounds_toArray, List.set_cons_zero, List.set_cons_succ]
      refine wpAnyH_take (i := 1) (v := .string (F ++ (⟨#[106, 111, 105, 110, 32]⟩ : ByteArray))) rfl (by kernel_rfl) (by kernel_rfl) (by kernel_rfl) (fun _ _ _ h => h) (Or.inl ⟨by rfl, ?_⟩) hHeld ?_
      · intro W hSw
        go_simp
      try simp only [List.getElem_toArray, List.getElem_cons_zero, List.getElem_cons_succ, Act.put, List.setIfInBounds_toArray, List.set_cons_zero, List.set_cons_succ]
      refine wpAnyH_take (i := 2) (v := .pointer (some ⟨w.heap.size, 1, none⟩)) rfl (by kernel_rfl) (by kernel_rfl) (by kernel_rfl) (fun _ _ _ h => h) (Or.inl ⟨by rfl, ?_⟩) hHeld ?_
      · intro W hSw
        go_simp
      try simp only [List.getElem_toArray, List.getElem_cons_zero, List.getElem_cons_succ, Act.put, List.setIfInBounds_toArray, List.set_cons_zero, List.set_cons_succ]
      refine wpAnyH_take (i := 3) (v := .slice (some ⟨b, off, none⟩) prs.length capp) rfl (by kernel_rfl) (by kernel_rfl) (by kernel_rfl) (fun _ _ _ h => h) (Or.inl ⟨by rfl, ?_⟩) hHeld ?_
      · intro W hSw
        obtain ⟨hs1, hs2, hs3⟩ := hSw
        go_simp
      try simp only [List.getElem_toArray, List.getElem_cons_zero, List.getElem_cons_succ, Act.put, List.setIfInBounds_toArray, List.set_cons_zero, List.set_cons_succ]
      refine wpAnyH_take (i := 4) (v := .int .i64 (i : Int)) rfl (by kernel_rfl) (by kernel_rfl) (by kernel_rfl) (fun _ _ _ h => h) (Or.inl ⟨by rfl, ?_⟩) hHeld ?_
      · intro W hSw
        go_simp
      try simp only [List.getElem_toArray, List.getElem_cons_zero, List.getElem_cons_succ, Act.put, List.setIfInBounds_toArray, List.set_cons_zero, List.set_cons_succ]
      refine wpAnyH_take (i := 5) (v := .pointer (some ⟨b, off + i * 2, none⟩)) rfl (by kernel_rfl) (by kernel_rfl) (by kernel_rfl) (fun _ _ _ h => h) (Or.inl ⟨by rfl, ?_⟩) hHeld ?_
      · intro W hSw
        go_simp
      try simp only [List.getElem_toArray, List.getElem_cons_zero, List.getElem_cons_succ, Act.put, List.setIfInBounds_toArray, List.set_cons_zero, List.set_cons_succ]
      refine wpAnyH_take (i := 6) (v := .pointer (some ⟨b, off + i * 2, none⟩)) rfl (by kernel_rfl) (by kernel_rfl) (by kernel_rfl) (fun _ _ _ h => h) (Or.inl ⟨by rfl, ?_⟩) hHeld ?_
      · intro W hSw
        go_simp
      try simp only [List.getElem_toArray, List.getElem_cons_zero, List.getElem_cons_succ, Act.put, List.setIfInBounds_toArray, List.set_cons_zero, List.set_cons_succ]
      refine wpAnyH_take (i := 7) (v := .int .u8 x1) rfl (by kernel_rfl) (by kernel_rfl) (by kernel_rfl) (fun _ _ _ h => h) (Or.inl ⟨by rfl, ?_⟩) hHeld ?_
      · intro W hSw
        obtain ⟨hs1, hs2, hs3⟩ := hSw
        go_simp
      try simp only [List.getElem_toArray, List.getElem_cons_zero, List.getElem_cons_succ, Act.put, List.setIfInBounds_toArray, List.set_cons_zero, List.set_cons_succ]
      refine wpAnyH_take (i := 8) (v := .int .i64 x1) rfl (by kernel_rfl) (by kernel_rfl) (by kernel_rfl) (fun _ _ _ h => h) (Or.inl ⟨by rfl, ?_⟩) hHeld ?_
      · intro W hSw
        go_simp
      try simp only [List.getElem_toArray, List.getElem_cons_zero, List.getElem_cons_succ, Act.put, List.setIfInBounds_toArray, List.set_cons_zero, List.set_cons_succ]
      refine wpAnyH_take (i := 12) (v := .pointer (some ⟨w.heap.size, 1, none⟩)) rfl (by kernel_rfl) (by kernel_rfl) (by kernel_rfl) (fun _ _ _ h => h) (Or.inl ⟨by rfl, ?_⟩) hHeld ?_
      · intro W hSw
        go_simp
      try simp only [List.getElem_toArray, List.getElem_cons_zero, List.getElem_cons_succ, Act.put, List.setIfInBounds_toArray, List.set_cons_zero, List.set_cons_succ]
      refine wpAnyH_take (i := 13) (v := .slice (some ⟨b, off, none⟩) prs.length capp) rfl (by kernel_rfl) (by kernel_rfl) (by kernel_rfl) (fun _ _ _ h => h) (Or.inl ⟨by rfl, ?_⟩) hHeld ?_
      · intro W hSw
        obtain ⟨hs1, hs2, hs3⟩ := hSw
        go_simp
      try simp only [List.getElem_toArray, List.getElem_cons_zero, List.getElem_cons_succ, Act.put, List.setIfInBounds_toArray, List.set_cons_zero, List.set_cons_succ]
      refine wpAnyH_take (i := 14) (v := .int .i64 (i : Int)) rfl (by kernel_rfl) (by kernel_rfl) (by kernel_rfl) (fun _ _ _ h => h) (Or.inl ⟨by rfl, ?_⟩) hHeld ?_
      · intro W hSw
        go_simp
      try simp only [List.getElem_toArray, List.getElem_cons_zero, List.getElem_cons_succ, Act.put, List.setIfInBounds_toArray, List.set_cons_zero, List.set_cons_succ]
      refine wpAnyH_take (i := 15) (v := .pointer (some ⟨b, off + i * 2, none⟩)) rfl (by kernel_rfl) (by kernel_rfl) (by kernel_rfl) (fun _ _ _ h => h) (Or.inl ⟨by rfl, ?_⟩) hHeld ?_
      · intro W hSw
        go_simp
      try simp only [List.getElem_toArray, List.getElem_cons_zero, List.getElem_cons_succ, Act.put, List.setIfInBounds_toArray, List.set_cons_zero, List.set_cons_succ]
      refine wpAnyH_take (i := 16) (v := .pointer (some ⟨b, off + i * 2 + 1, none⟩)) rfl (by kernel_rfl) (by kernel_rfl) (by kernel_rfl) (fun _ _ _ h => h) (Or.inl ⟨by rfl, ?_⟩) hHeld ?_
      · intro W hSw
        go_simp
      try simp only [List.getElem_toArray, List.getElem_cons_zero, List.getElem_cons_succ, Act.put, List.setIfInBounds_toArray, List.set_cons_zero, List.set_cons_succ]
      refine wpAnyH_take (i := 17) (v := .int .u8 x2) rfl (by kernel_rfl) (by kernel_rfl) (by kernel_rfl) (fun _ _ _ h => h) (Or.inl ⟨by rfl, ?_⟩) hHeld ?_
      · intro W hSw
        obtain ⟨hs1, hs2, hs3⟩ := hSw
        go_simp
      try simp only [List.getElem_toArray, List.getElem_cons_zero, List.getElem_cons_succ, Act.put, List.setIfInBounds_toArray, List.set_cons_zero, List.set_cons_succ]
      refine wpAnyH_take (i := 18) (v := .int .i64 x2) rfl (by kernel_rfl) (by kernel_rfl) (by kernel_rfl) (fun _ _ _ h => h) (Or.inl ⟨by rfl, ?_⟩) hHeld ?_
      · intro W hSw
        go_simp
      try simp only [List.getElem_toArray, List.getElem_cons_zero, List.getElem_cons_succ, Act.put, List.setIfInBounds_toArray, List.set_cons_zero, List.set_cons_succ]
      refine wpAnyH_ready (rs := [9]) (by kernel_rfl) (by simp) ?_
      refine AllReadyH.cons rfl (fun K hK => ?_) AllReadyH.nil
      simp only [List.getElem_toArray, List.getElem_cons_zero, List.getElem_cons_succ]
      go_simp
      refine (HN1 _).out.mono ?_
      rintro y y1 ⟨rfl, rfl⟩
      refine hK.out _ _ hHeld (fun hHeld => ?_)
      clear hK K
      try simp only [List.getElem_toArray, List.getElem_cons_zero, List.getElem_cons_succ, Act.put, List.setIfInBounds_toArray, List.set_cons_zero, List.set_cons_succ]
      refine wpAnyH_take (i := 10) (v := .string (F ++ (⟨#[106, 111, 105, 110, 32]⟩ : ByteArray) ++ X1)) rfl (by kernel_rfl) (by kernel_rfl) (by kernel_rfl) (fun _ _ _ h => h) (Or.inl ⟨by rfl, ?_⟩) hHeld ?_
      · intro W hSw
        go_simp
      try simp only [List.getElem_toArray, List.getElem_cons_zero, List.getElem_cons_succ, Act.put, List.setIfInBounds_toArray, List.set_cons_zero, List.set_cons_succ]
      refine wpAnyH_take (i := 11) (v := .string (F ++ (⟨#[106, 111, 105, 110, 32]⟩ : ByteArray) ++ X1 ++ (⟨#[32]⟩ : ByteArray))) rfl (by kernel_rfl) (by kernel_rfl) (by kernel_rfl) (fun _ _ _ h => h) (Or.inl ⟨by rfl, ?_⟩) hHeld ?_
      · intro W hSw
        go_simp
      try simp only [List.getElem_toArray, List.getElem_cons_zero, List.getElem_cons_succ, Act.put, List.setIfInBounds_toArray, List.set_cons_zero, List.set_cons_succ]
      refine wpAnyH_ready (rs := [19]) (by kernel_rfl) (by simp) ?_
      refine AllReadyH.cons rfl (fun K hK => ?_) AllReadyH.nil
      simp only [List.getElem_toArray, List.getElem_cons_zero, List.getElem_cons_succ]
      go_simp
      refine (HN2 _).out.mono ?_
      rintro y y1 ⟨rfl, rfl⟩
      refine hK.out _ _ hHeld (fun hHeld => ?_)
      clear hK K
      try simp only [List.getElem_toArray, List.getElem_cons_zero, List.getElem_cons_succ, Act.put, List.setIfInBounds_toArray, List.set_cons_zero, List.set_cons_succ]
      refine wpAnyH_take (i := 20) (v := .string (F ++ (⟨#[106, 111, 105, 110, 32]⟩ : ByteArray) ++ X1 ++ (⟨#[32]⟩ : ByteArray) ++ X2)) rfl (by kernel_rfl) (by kernel_rfl) (by kernel_rfl) (fun _ _ _ h => h) (Or.inl ⟨by rfl, ?_⟩) hHeld ?_
      · intro W hSw
        go_simp
      try simp only [List.getElem_toArray, List.getElem_cons_zero, List.getElem_cons_succ, Act.put, List.setIfInBounds_toArray, List.set_cons_zero, List.set_cons_succ]
      refine wpAnyH_take (i := 21) (v := .string (F ++ (⟨#[106, 111, 105, 110, 32]⟩ : ByteArray) ++ X1 ++ (⟨#[32]⟩ : ByteArray) ++ X2 ++ (⟨#[10]⟩ : ByteArray))) rfl (by kernel_rfl) (by kernel_rfl) (by kernel_rfl) (fun _ _ _ h => h) (Or.inl ⟨by rfl, ?_⟩) hHeld ?_
      · intro W hSw
        go_simp
      try simp only [List.getElem_toArray, List.getElem_cons_zero, List.getElem_cons_succ, Act.put, List.setIfInBounds_toArray, List.set_cons_zero, List.set_cons_succ]
      refine wpAnyH_take (i := 22) (v := .string (F ++ (⟨#[106, 111, 105, 110, 32]⟩ : ByteArray) ++ X1 ++ (⟨#[32]⟩ : ByteArray) ++ X2 ++ (⟨#[10]⟩ : ByteArray))) rfl (by kernel_rfl) (by kernel_rfl) (by kernel_rfl) (fun _ _ _ h => h) (Or.inl ⟨by rfl, ?_⟩) hHeld ?_
      · intro W hSw
        go_simp
      try simp only [List.getElem_toArray, List.getElem_cons_zero, List.getElem_cons_succ, Act.put, List.setIfInBounds_toArray, List.set_cons_zero, List.set_cons_succ]
      refine wpAnyH_done (by kernel_rfl) ?_ _
      have hFn : F ++ (⟨#[106, 111, 105, 110, 32]⟩ : ByteArray) ++ X1 ++ (⟨#[32]⟩ : ByteArray) ++ X2 ++ (⟨#[10]⟩ : ByteArray) = toB (fedW (hdW n :: (prs.take (i + 1)).map jnW)) := by
        rw [HTS.out, HXX.out.1, HXX.out.2]
        refine ByteArray.ext (Array.ext' ?_)
        simp [toB, ByteArray.data_append]
      have HFn := Lib.hid hFn
      clear hFn
      generalize F ++ (⟨#[106, 111, 105, 110, 32]⟩ : ByteArray) ++ X1 ++ (⟨#[32]⟩ : ByteArray) ++ X2 ++ (⟨#[10]⟩ : ByteArray) = F2 at *
      go_wp2_with fail
      go_roundg (prs.length - (i + 1))
      case measure => omega
      case rel => exact ⟨i + 1, F2, by omega, by go_num, rfl, HFn.out, HO.out.drew⟩
    · have hil : i = prs.length := by omega
      subst hil
      rw [List.take_length] at hF
      have hFs : F.size ≤ 300000000 := by
        rw [hF, toB_size]
        refine fed_take (fun x hx => HSub.out x ?_) (by simp; omega)
        unfold headsW
        rcases List.mem_cons.1 hx with rfl | hx
        · simp
        · obtain ⟨p, hp, rfl⟩ := List.mem_map.1 hx
          simp only [List.cons_append, List.mem_cons, List.mem_append, List.mem_map]
          exact .inr (.inl ⟨p, hp, rfl⟩)
      have HF := Lib.hid hF
      have HO := Lib.hid hO
      have hbR := hO.blk HA.out.1 id
      have r2 : wr.cell? ⟨w.heap.size, 2, none⟩ = some (.bool back) := hbR.cell 2 _ rfl
      have r3 : wr.cell? ⟨w.heap.size, 3, none⟩ = some (.bool red) := hbR.cell 3 _ rfl
      have r4 : wr.cell? ⟨w.heap.size, 4, none⟩ = some (.int .i64 room) := hbR.cell 4 _ rfl
      have r5 : wr.cell? ⟨w.heap.size, 5, none⟩ = some (.int .i64 budget) := hbR.cell 5 _ rfl
      have r6 : wr.cell? ⟨w.heap.size, 6, none⟩ = some (.int .u64 seed) := hbR.cell 6 _ rfl
      have hsd0 : 0 ≤ seed := HIN.out.seed.1
      have HN1 := fun W : World => Lib.hid (rans_c back W)
      have HN2 := fun W : World => Lib.hid (rans_c red W)
      have HN3 := fun W : World => Lib.hid (rprint_c room W HIN.out.room.1 HIN.out.room.2)
      have HN4 := fun W : World => Lib.hid (rprint_c budget W HIN.out.budget.1 HIN.out.budget.2)
      have HN5 := fun W : World => Lib.hid (rprint_c seed W (by omega) b7)
      have hw5 : IntKind.i64.wrap seed = seed := IntWalk.i64_in _ (by omega)
      obtain ⟨X1, hX1⟩ : ∃ P : ByteArray, P = toB (ansW back) := ⟨_, rfl⟩
      obtain ⟨X2, hX2⟩ : ∃ P : ByteArray, P = toB (ansW red) := ⟨_, rfl⟩
      obtain ⟨X3, hX3⟩ : ∃ P : ByteArray, P = ⟨(printM room).toArray⟩ := ⟨_, rfl⟩
      obtain ⟨X4, hX4⟩ : ∃ P : ByteArray, P = ⟨(printM budget).toArray⟩ := ⟨_, rfl⟩
      obtain ⟨X5, hX5⟩ : ∃ P : ByteArray, P = ⟨(printM seed).toArray⟩ := ⟨_, rfl⟩
      rw [← hX1] at HN1
      rw [← hX2] at HN2
      rw [← hX3] at HN3
      rw [← hX4] at HN4
      rw [← hX5] at HN5
      have z1 : X1.size ≤ 3000 := by rw [hX1, toB_size]; exact ans_len _
      have z2 : X2.size ≤ 3000 := by rw [hX2, toB_size]; exact ans_len _
      have z3 : X3.size ≤ 3000 := by rw [hX3]; show (printM room).toArray.size ≤ 3000; rw [List.size_toArray]; exact prt_len _ HIN.out.room.1 HIN.out.room.2
      have z4 : X4.size ≤ 3000 := by rw [hX4]; show (printM budget).toArray.size ≤ 3000; rw [List.size_toArray]; exact prt_len _ HIN.out.budget.1 HIN.out.budget.2
      have z5 : X5.size ≤ 3000 := by rw [hX5]; show (printM seed).toArray.size ≤ 3000; rw [List.size_toArray]; exact prt_len _ (by omega) b7
      have HXX := Lib.hid (And.intro hX1 (And.intro hX2 (And.intro hX3 (And.intro hX4 hX5))))
      have nn0 : ¬ 9223372036854775807 < F.size + 6 := by omega
      have nn1 : ¬ 9223372036854775807 < F.size + 6 + X1.size := by omega
      have nn2 : ¬ 9223372036854775807 < F.size + 6 + X1.size + 1 := by omega
      have nn3 : ¬ 9223372036854775807 < F.size + 6 + X1.size + 1 + X2.size := by omega
      have nn4 : ¬ 9223372036854775807 < F.size + 6 + X1.size + 1 + X2.size + 1 := by omega
      have nn5 : ¬ 9223372036854775807 < F.size + 6 + X1.size + 1 + X2.size + 1 + X3.size := by omega
      have nn6 : ¬ 9223372036854775807 < F.size + 6 + X1.size + 1 + X2.size + 1 + X3.size + 1 := by omega
      have nn7 : ¬ 9223372036854775807 < F.size + 6 + X1.size + 1 + X2.size + 1 + X3.size + 1 + X4.size := by omega
      have nn8 : ¬ 9223372036854775807 < F.size + 6 + X1.size + 1 + X2.size + 1 + X3.size + 1 + X4.size + 1 := by omega
      have nn9 : ¬ 9223372036854775807 < F.size + 6 + X1.size + 1 + X2.size + 1 + X3.size + 1 + X4.size + 1 + X5.size := by omega
      have nn10 : ¬ 9223372036854775807 < F.size + 6 + X1.size + 1 + X2.size + 1 + X3.size + 1 + X4.size + 1 + X5.size + 1 := by omega
      have hill : ¬ (prs.length : Int) < (prs.length : Int) := by omega
      clear hF hO hbR hX1 hX2 hX3 hX4 hX5 hFs
      go_upto_region 9 with fail
      refine wp_region_held_drew (S := fun w' => w'.cell? ⟨w.heap.size, 2, none⟩ = some (.bool back) ∧ w'.cell? ⟨w.heap.size, 3, none⟩ = some (.bool red) ∧ w'.cell? ⟨w.heap.size, 4, none⟩ = some (.int .i64 room) ∧ w'.cell? ⟨w.heap.size, 5, none⟩ = some (.int .i64 budget) ∧ w'.cell? ⟨w.heap.size, 6, none⟩ = some (.int .u64 seed)) (by kernel_rfl) ⟨r2, r3, r4, r5, r6⟩ (fun hHeld => ?_)
      refine wpAnyH_take (i := 0) (v := .string F) rfl (by kernel_rfl) (by kernel_rfl) (by kernel_rfl) (fun _ _ _ h => h) (Or.inl ⟨by rfl, ?_⟩) hHeld ?_
      · intro W hSw
        go_simp
      try simp only [List.getElem_toArray, List.getElem_cons_zero, Act.put, List.setIfInBounds_toArray, List.set_cons_zero, List.set_cons_succ]
      refine wpAnyH_take (i := 1) (v := .string (F ++ (⟨#[114, 117, 108, 101, 115, 32]⟩ : ByteArray))) rfl (by kernel_rfl) (by kernel_rfl) (by kernel_rfl) (fun _ _ _ h => h) (Or.inl ⟨by rfl, ?_⟩) hHeld ?_
      · intro W hSw
        go_simp
      try simp only [List.getElem_toArray, List.getElem_cons_zero, List.getElem_cons_succ, Act.put, List.setIfInBounds_toArray, List.set_cons_zero, List.set_cons_succ]
      refine wpAnyH_take (i := 2) (v := .pointer (some ⟨w.heap.size, 2, none⟩)) rfl (by kernel_rfl) (by kernel_rfl) (by kernel_rfl) (fun _ _ _ h => h) (Or.inl ⟨by rfl, ?_⟩) hHeld ?_
      · intro W hSw
        go_simp
      try simp only [List.getElem_toArray, List.getElem_cons_zero, List.getElem_cons_succ, Act.put, List.setIfInBounds_toArray, List.set_cons_zero, List.set_cons_succ]
      refine wpAnyH_take (i := 3) (v := .pointer (some ⟨w.heap.size, 2, none⟩)) rfl (by kernel_rfl) (by kernel_rfl) (by kernel_rfl) (fun _ _ _ h => h) (Or.inl ⟨by rfl, ?_⟩) hHeld ?_
      · intro W hSw
        go_simp
      try simp only [List.getElem_toArray, List.getElem_cons_zero, List.getElem_cons_succ, Act.put, List.setIfInBounds_toArray, List.set_cons_zero, List.set_cons_succ]
      refine wpAnyH_take (i := 4) (v := .pointer (some ⟨w.heap.size, 2, none⟩)) rfl (by kernel_rfl) (by kernel_rfl) (by kernel_rfl) (fun _ _ _ h => h) (Or.inl ⟨by rfl, ?_⟩) hHeld ?_
      · intro W hSw
        go_simp
      try simp only [List.getElem_toArray, List.getElem_cons_zero, List.getElem_cons_succ, Act.put, List.setIfInBounds_toArray, List.set_cons_zero, List.set_cons_succ]
      refine wpAnyH_take (i := 5) (v := .bool back) rfl (by kernel_rfl) (by kernel_rfl) (by kernel_rfl) (fun _ _ _ h => h) (Or.inl ⟨by rfl, ?_⟩) hHeld ?_
      · intro W hSw
        obtain ⟨hs1, hs2, hs3, hs4, hs5⟩ := hSw
        go_simp
      try simp only [List.getElem_toArray, List.getElem_cons_zero, List.getElem_cons_succ, Act.put, List.setIfInBounds_toArray, List.set_cons_zero, List.set_cons_succ]
      refine wpAnyH_take (i := 9) (v := .pointer (some ⟨w.heap.size, 2, none⟩)) rfl (by kernel_rfl) (by kernel_rfl) (by kernel_rfl) (fun _ _ _ h => h) (Or.inl ⟨by rfl, ?_⟩) hHeld ?_
      · intro W hSw
        go_simp
      try simp only [List.getElem_toArray, List.getElem_cons_zero, List.getElem_cons_succ, Act.put, List.setIfInBounds_toArray, List.set_cons_zero, List.set_cons_succ]
      refine wpAnyH_take (i := 10) (v := .pointer (some ⟨w.heap.size, 2, none⟩)) rfl (by kernel_rfl) (by kernel_rfl) (by kernel_rfl) (fun _ _ _ h => h) (Or.inl ⟨by rfl, ?_⟩) hHeld ?_
      · intro W hSw
        go_simp
      try simp only [List.getElem_toArray, List.getElem_cons_zero, List.getElem_cons_succ, Act.put, List.setIfInBounds_toArray, List.set_cons_zero, List.set_cons_succ]
      refine wpAnyH_take (i := 11) (v := .pointer (some ⟨w.heap.size, 3, none⟩)) rfl (by kernel_rfl) (by kernel_rfl) (by kernel_rfl) (fun _ _ _ h => h) (Or.inl ⟨by rfl, ?_⟩) hHeld ?_
      · intro W hSw
        go_simp
      try simp only [List.getElem_toArray, List.getElem_cons_zero, List.getElem_cons_succ, Act.put, List.setIfInBounds_toArray, List.set_cons_zero, List.set_cons_succ]
      refine wpAnyH_take (i := 12) (v := .bool red) rfl (by kernel_rfl) (by kernel_rfl) (by kernel_rfl) (fun _ _ _ h => h) (Or.inl ⟨by rfl, ?_⟩) hHeld ?_
      · intro W hSw
        obtain ⟨hs1, hs2, hs3, hs4, hs5⟩ := hSw
        go_simp
      try simp only [List.getElem_toArray, List.getElem_cons_zero, List.getElem_cons_succ, Act.put, List.setIfInBounds_toArray, List.set_cons_zero, List.set_cons_succ]
      refine wpAnyH_take (i := 16) (v := .pointer (some ⟨w.heap.size, 2, none⟩)) rfl (by kernel_rfl) (by kernel_rfl) (by kernel_rfl) (fun _ _ _ h => h) (Or.inl ⟨by rfl, ?_⟩) hHeld ?_
      · intro W hSw
        go_simp
      try simp only [List.getElem_toArray, List.getElem_cons_zero, List.getElem_cons_succ, Act.put, List.setIfInBounds_toArray, List.set_cons_zero, List.set_cons_succ]
      refine wpAnyH_take (i := 17) (v := .pointer (some ⟨w.heap.size, 2, none⟩)) rfl (by kernel_rfl) (by kernel_rfl) (by kernel_rfl) (fun _ _ _ h => h) (Or.inl ⟨by rfl, ?_⟩) hHeld ?_
      · intro W hSw
        go_simp
      try simp only [List.getElem_toArray, List.getElem_cons_zero, List.getElem_cons_succ, Act.put, List.setIfInBounds_toArray, List.set_cons_zero, List.set_cons_succ]
      refine wpAnyH_take (i := 18) (v := .pointer (some ⟨w.heap.size, 4, none⟩)) rfl (by kernel_rfl) (by kernel_rfl) (by kernel_rfl) (fun _ _ _ h => h) (Or.inl ⟨by rfl, ?_⟩) hHeld ?_
      · intro W hSw
        go_simp
      try simp only [List.getElem_toArray, List.getElem_cons_zero, List.getElem_cons_succ, Act.put, List.setIfInBounds_toArray, List.set_cons_zero, List.set_cons_succ]
      refine wpAnyH_take (i := 19) (v := .int .i64 room) rfl (by kernel_rfl) (by kernel_rfl) (by kernel_rfl) (fun _ _ _ h => h) (Or.inl ⟨by rfl, ?_⟩) hHeld ?_
      · intro W hSw
        obtain ⟨hs1, hs2, hs3, hs4, hs5⟩ := hSw
        go_simp
      try simp only [List.getElem_toArray, List.getElem_cons_zero, List.getElem_cons_succ, Act.put, List.setIfInBounds_toArray, List.set_cons_zero, List.set_cons_succ]
      refine wpAnyH_take (i := 23) (v := .pointer (some ⟨w.heap.size, 2, none⟩)) rfl (by kernel_rfl) (by kernel_rfl) (by kernel_rfl) (fun _ _ _ h => h) (Or.inl ⟨by rfl, ?_⟩) hHeld ?_
      · intro W hSw
        go_simp
      try simp only [List.getElem_toArray, List.getElem_cons_zero, List.getElem_cons_succ, Act.put, List.setIfInBounds_toArray, List.set_cons_zero, List.set_cons_succ]
      refine wpAnyH_take (i := 24) (v := .pointer (some ⟨w.heap.size, 2, none⟩)) rfl (by kernel_rfl) (by kernel_rfl) (by kernel_rfl) (fun _ _ _ h => h) (Or.inl ⟨by rfl, ?_⟩) hHeld ?_
      · intro W hSw
        go_simp
      try simp only [List.getElem_toArray, List.getElem_cons_zero, List.getElem_cons_succ, Act.put, List.setIfInBounds_toArray, List.set_cons_zero, List.set_cons_succ]
      refine wpAnyH_take (i := 25) (v := .pointer (some ⟨w.heap.size, 5, none⟩)) rfl (by kernel_rfl) (by kernel_rfl) (by kernel_rfl) (fun _ _ _ h => h) (Or.inl ⟨by rfl, ?_⟩) hHeld ?_
      · intro W hSw
        go_simp
      try simp only [List.getElem_toArray, List.getElem_cons_zero, List.getElem_cons_succ, Act.put, List.setIfInBounds_toArray, List.set_cons_zero, List.set_cons_succ]
      refine wpAnyH_take (i := 26) (v := .int .i64 budget) rfl (by kernel_rfl) (by kernel_rfl) (by kernel_rfl) (fun _ _ _ h => h) (Or.inl ⟨by rfl, ?_⟩) hHeld ?_
      · intro W hSw
        obtain ⟨hs1, hs2, hs3, hs4, hs5⟩ := hSw
        go_simp
      try simp only [List.getElem_toArray, List.getElem_cons_zero, List.getElem_cons_succ, Act.put, List.setIfInBounds_toArray, List.set_cons_zero, List.set_cons_succ]
      refine wpAnyH_take (i := 30) (v := .pointer (some ⟨w.heap.size, 2, none⟩)) rfl (by kernel_rfl) (by kernel_rfl) (by kernel_rfl) (fun _ _ _ h => h) (Or.inl ⟨by rfl, ?_⟩) hHeld ?_
      · intro W hSw
        go_simp
      try simp only [List.getElem_toArray, List.getElem_cons_zero, List.getElem_cons_succ, Act.put, List.setIfInBounds_toArray, List.set_cons_zero, List.set_cons_succ]
      refine wpAnyH_take (i := 31) (v := .pointer (some ⟨w.heap.size, 6, none⟩)) rfl (by kernel_rfl) (by kernel_rfl) (by kernel_rfl) (fun _ _ _ h => h) (Or.inl ⟨by rfl, ?_⟩) hHeld ?_
      · intro W hSw
        go_simp
      try simp only [List.getElem_toArray, List.getElem_cons_zero, List.getElem_cons_succ, Act.put, List.setIfInBounds_toArray, List.set_cons_zero, List.set_cons_succ]
      refine wpAnyH_take (i := 32) (v := .int .u64 seed) rfl (by kernel_rfl) (by kernel_rfl) (by kernel_rfl) (fun _ _ _ h => h) (Or.inl ⟨by rfl, ?_⟩) hHeld ?_
      · intro W hSw
        obtain ⟨hs1, hs2, hs3, hs4, hs5⟩ := hSw
        go_simp
      try simp only [List.getElem_toArray, List.getElem_cons_zero, List.getElem_cons_succ, Act.put, List.setIfInBounds_toArray, List.set_cons_zero, List.set_cons_succ]
      refine wpAnyH_take (i := 33) (v := .int .i64 seed) rfl (by kernel_rfl) (by kernel_rfl) (by kernel_rfl) (fun _ _ _ h => h) (Or.inl ⟨by rfl, ?_⟩) hHeld ?_
      · intro W hSw
        go_simp
      try simp only [List.getElem_toArray, List.getElem_cons_zero, List.getElem_cons_succ, Act.put, List.setIfInBounds_toArray, List.set_cons_zero, List.set_cons_succ]
      refine wpAnyH_ready (rs := [6]) (by kernel_rfl) (by simp) ?_
      refine AllReadyH.cons rfl (fun K hK => ?_) AllReadyH.nil
      simp only [List.getElem_toArray, List.getElem_cons_zero, List.getElem_cons_succ]
      go_simp
      refine (HN1 _).out.mono ?_
      rintro y y1 ⟨rfl, rfl⟩
      refine hK.out _ _ hHeld (fun hHeld => ?_)
      clear hK K
      try simp only [List.getElem_toArray, List.getElem_cons_zero, List.getElem_cons_succ, Act.put, List.setIfInBounds_toArray, List.set_cons_zero, List.set_cons_succ]
      refine wpAnyH_take (i := 7) (v := .string (F ++ (⟨#[114, 117, 108, 101, 115, 32]⟩ : ByteArray) ++ X1)) rfl (by kernel_rfl) (by kernel_rfl) (by kernel_rfl) (fun _ _ _ h => h) (Or.inl ⟨by rfl, ?_⟩) hHeld ?_
      · intro W hSw
        go_simp
      try simp only [List.getElem_toArray, List.getElem_cons_zero, List.getElem_cons_succ, Act.put, List.setIfInBounds_toArray, List.set_cons_zero, List.set_cons_succ]
      refine wpAnyH_take (i := 8) (v := .string (F ++ (⟨#[114, 117, 108, 101, 115, 32]⟩ : ByteArray) ++ X1 ++ (⟨#[32]⟩ : ByteArray))) rfl (by kernel_rfl) (by kernel_rfl) (by kernel_rfl) (fun _ _ _ h => h) (Or.inl ⟨by rfl, ?_⟩) hHeld ?_
      · intro W hSw
        go_simp
      try simp only [List.getElem_toArray, List.getElem_cons_zero, List.getElem_cons_succ, Act.put, List.setIfInBounds_toArray, List.set_cons_zero, List.set_cons_succ]
      refine wpAnyH_ready (rs := [13]) (by kernel_rfl) (by simp) ?_
      refine AllReadyH.cons rfl (fun K hK => ?_) AllReadyH.nil
      simp only [List.getElem_toArray, List.getElem_cons_zero, List.getElem_cons_succ]
      go_simp
      refine (HN2 _).out.mono ?_
      rintro y y1 ⟨rfl, rfl⟩
      refine hK.out _ _ hHeld (fun hHeld => ?_)
      clear hK K
      try simp only [List.getElem_toArray, List.getElem_cons_zero, List.getElem_cons_succ, Act.put, List.setIfInBounds_toArray, List.set_cons_zero, List.set_cons_succ]
      refine wpAnyH_take (i := 14) (v := .string (F ++ (⟨#[114, 117, 108, 101, 115, 32]⟩ : ByteArray) ++ X1 ++ (⟨#[32]⟩ : ByteArray) ++ X2)) rfl (by kernel_rfl) (by kernel_rfl) (by kernel_rfl) (fun _ _ _ h => h) (Or.inl ⟨by rfl, ?_⟩) hHeld ?_
      · intro W hSw
        go_simp
      try simp only [List.getElem_toArray, List.getElem_cons_zero, List.getElem_cons_succ, Act.put, List.setIfInBounds_toArray, List.set_cons_zero, List.set_cons_succ]
      refine wpAnyH_take (i := 15) (v := .string (F ++ (⟨#[114, 117, 108, 101, 115, 32]⟩ : ByteArray) ++ X1 ++ (⟨#[32]⟩ : ByteArray) ++ X2 ++ (⟨#[32]⟩ : ByteArray))) rfl (by kernel_rfl) (by kernel_rfl) (by kernel_rfl) (fun _ _ _ h => h) (Or.inl ⟨by rfl, ?_⟩) hHeld ?_
      · intro W hSw
        go_simp
      try simp only [List.getElem_toArray, List.getElem_cons_zero, List.getElem_cons_succ, Act.put, List.setIfInBounds_toArray, List.set_cons_zero, List.set_cons_succ]
      refine wpAnyH_ready (rs := [20]) (by kernel_rfl) (by simp) ?_
      refine AllReadyH.cons rfl (fun K hK => ?_) AllReadyH.nil
      simp only [List.getElem_toArray, List.getElem_cons_zero, List.getElem_cons_succ]
      go_simp
      refine (HN3 _).out.mono ?_
      rintro y y1 ⟨rfl, rfl⟩
      refine hK.out _ _ hHeld (fun hHeld => ?_)
      clear hK K
      try simp only [List.getElem_toArray, List.getElem_cons_zero, List.getElem_cons_succ, Act.put, List.setIfInBounds_toArray, List.set_cons_zero, List.set_cons_succ]
      refine wpAnyH_take (i := 21) (v := .string (F ++ (⟨#[114, 117, 108, 101, 115, 32]⟩ : ByteArray) ++ X1 ++ (⟨#[32]⟩ : ByteArray) ++ X2 ++ (⟨#[32]⟩ : ByteArray) ++ X3)) rfl (by kernel_rfl) (by kernel_rfl) (by kernel_rfl) (fun _ _ _ h => h) (Or.inl ⟨by rfl, ?_⟩) hHeld ?_
      · intro W hSw
        go_simp
      try simp only [List.getElem_toArray, List.getElem_cons_zero, List.getElem_cons_succ, Act.put, List.setIfInBounds_toArray, List.set_cons_zero, List.set_cons_succ]
      refine wpAnyH_take (i := 22) (v := .string (F ++ (⟨#[114, 117, 108, 101, 115, 32]⟩ : ByteArray) ++ X1 ++ (⟨#[32]⟩ : ByteArray) ++ X2 ++ (⟨#[32]⟩ : ByteArray) ++ X3 ++ (⟨#[32]⟩ : ByteArray))) rfl (by kernel_rfl) (by kernel_rfl) (by kernel_rfl) (fun _ _ _ h => h) (Or.inl ⟨by rfl, ?_⟩) hHeld ?_
      · intro W hSw
        go_simp
      try simp only [List.getElem_toArray, List.getElem_cons_zero, List.getElem_cons_succ, Act.put, List.setIfInBounds_toArray, List.set_cons_zero, List.set_cons_succ]
      refine wpAnyH_ready (rs := [27]) (by kernel_rfl) (by simp) ?_
      refine AllReadyH.cons rfl (fun K hK => ?_) AllReadyH.nil
      simp only [List.getElem_toArray, List.getElem_cons_zero, List.getElem_cons_succ]
      go_simp
      refine (HN4 _).out.mono ?_
      rintro y y1 ⟨rfl, rfl⟩
      refine hK.out _ _ hHeld (fun hHeld => ?_)
      clear hK K
      try simp only [List.getElem_toArray, List.getElem_cons_zero, List.getElem_cons_succ, Act.put, List.setIfInBounds_toArray, List.set_cons_zero, List.set_cons_succ]
      refine wpAnyH_take (i := 28) (v := .string (F ++ (⟨#[114, 117, 108, 101, 115, 32]⟩ : ByteArray) ++ X1 ++ (⟨#[32]⟩ : ByteArray) ++ X2 ++ (⟨#[32]⟩ : ByteArray) ++ X3 ++ (⟨#[32]⟩ : ByteArray) ++ X4)) rfl (by kernel_rfl) (by kernel_rfl) (by kernel_rfl) (fun _ _ _ h => h) (Or.inl ⟨by rfl, ?_⟩) hHeld ?_
      · intro W hSw
        go_simp
      try simp only [List.getElem_toArray, List.getElem_cons_zero, List.getElem_cons_succ, Act.put, List.setIfInBounds_toArray, List.set_cons_zero, List.set_cons_succ]
      refine wpAnyH_take (i := 29) (v := .string (F ++ (⟨#[114, 117, 108, 101, 115, 32]⟩ : ByteArray) ++ X1 ++ (⟨#[32]⟩ : ByteArray) ++ X2 ++ (⟨#[32]⟩ : ByteArray) ++ X3 ++ (⟨#[32]⟩ : ByteArray) ++ X4 ++ (⟨#[32]⟩ : ByteArray))) rfl (by kernel_rfl) (by kernel_rfl) (by kernel_rfl) (fun _ _ _ h => h) (Or.inl ⟨by rfl, ?_⟩) hHeld ?_
      · intro W hSw
        go_simp
      try simp only [List.getElem_toArray, List.getElem_cons_zero, List.getElem_cons_succ, Act.put, List.setIfInBounds_toArray, List.set_cons_zero, List.set_cons_succ]
      refine wpAnyH_ready (rs := [34]) (by kernel_rfl) (by simp) ?_
      refine AllReadyH.cons rfl (fun K hK => ?_) AllReadyH.nil
      simp only [List.getElem_toArray, List.getElem_cons_zero, List.getElem_cons_succ]
      go_simp
      refine (HN5 _).out.mono ?_
      rintro y y1 ⟨rfl, rfl⟩
      refine hK.out _ _ hHeld (fun hHeld => ?_)
      clear hK K
      try simp only [List.getElem_toArray, List.getElem_cons_zero, List.getElem_cons_succ, Act.put, List.setIfInBounds_toArray, List.set_cons_zero, List.set_cons_succ]
      refine wpAnyH_take (i := 35) (v := .string (F ++ (⟨#[114, 117, 108, 101, 115, 32]⟩ : ByteArray) ++ X1 ++ (⟨#[32]⟩ : ByteArray) ++ X2 ++ (⟨#[32]⟩ : ByteArray) ++ X3 ++ (⟨#[32]⟩ : ByteArray) ++ X4 ++ (⟨#[32]⟩ : ByteArray) ++ X5)) rfl (by kernel_rfl) (by kernel_rfl) (by kernel_rfl) (fun _ _ _ h => h) (Or.inl ⟨by rfl, ?_⟩) hHeld ?_
      · intro W hSw
        go_simp
      try simp only [List.getElem_toArray, List.getElem_cons_zero, List.getElem_cons_succ, Act.put, List.setIfInBounds_toArray, List.set_cons_zero, List.set_cons_succ]
      refine wpAnyH_take (i := 36) (v := .string (F ++ (⟨#[114, 117, 108, 101, 115, 32]⟩ : ByteArray) ++ X1 ++ (⟨#[32]⟩ : ByteArray) ++ X2 ++ (⟨#[32]⟩ : ByteArray) ++ X3 ++ (⟨#[32]⟩ : ByteArray) ++ X4 ++ (⟨#[32]⟩ : ByteArray) ++ X5 ++ (⟨#[10]⟩ : ByteArray))) rfl (by kernel_rfl) (by kernel_rfl) (by kernel_rfl) (fun _ _ _ h => h) (Or.inl ⟨by rfl, ?_⟩) hHeld ?_
      · intro W hSw
        go_simp
      try simp only [List.getElem_toArray, List.getElem_cons_zero, List.getElem_cons_succ, Act.put, List.setIfInBounds_toArray, List.set_cons_zero, List.set_cons_succ]
      refine wpAnyH_take (i := 37) (v := .string (F ++ (⟨#[114, 117, 108, 101, 115, 32]⟩ : ByteArray) ++ X1 ++ (⟨#[32]⟩ : ByteArray) ++ X2 ++ (⟨#[32]⟩ : ByteArray) ++ X3 ++ (⟨#[32]⟩ : ByteArray) ++ X4 ++ (⟨#[32]⟩ : ByteArray) ++ X5 ++ (⟨#[10]⟩ : ByteArray))) rfl (by kernel_rfl) (by kernel_rfl) (by kernel_rfl) (fun _ _ _ h => h) (Or.inl ⟨by rfl, ?_⟩) hHeld ?_
      · intro W hSw
        go_simp
      try simp only [List.getElem_toArray, List.getElem_cons_zero, List.getElem_cons_succ, Act.put, List.setIfInBounds_toArray, List.set_cons_zero, List.set_cons_succ]
      refine wpAnyH_done (by kernel_rfl) ?_ _
      have hFn : F ++ (⟨#[114, 117, 108, 101, 115, 32]⟩ : ByteArray) ++ X1 ++ (⟨#[32]⟩ : ByteArray) ++ X2 ++ (⟨#[32]⟩ : ByteArray) ++ X3 ++ (⟨#[32]⟩ : ByteArray) ++ X4 ++ (⟨#[32]⟩ : ByteArray) ++ X5 ++ (⟨#[10]⟩ : ByteArray) = toB (fedW (headsW ⟨n, prs, back, red, room, budget, seed⟩)) := by
        obtain ⟨q1, q2, q3, q4, q5⟩ := HXX.out
        have h : fedW (headsW ⟨n, prs, back, red, room, budget, seed⟩) = fedW (hdW n :: prs.map jnW) ++ (rlW ⟨n, prs, back, red, room, budget, seed⟩ ++ [10]) := by
          unfold headsW
          rw [fedW_snoc, List.append_assoc]
        rw [h, rl_fed, toB_app, ← HF.out, q1, q2, q3, q4, q5]
        refine ByteArray.ext (Array.ext' ?_)
        simp [toB, ByteArray.data_append]
      have HFn := Lib.hid hFn
      clear hFn hHeld r2 r3 r4 r5 r6
      generalize F ++ (⟨#[114, 117, 108, 101, 115, 32]⟩ : ByteArray) ++ X1 ++ (⟨#[32]⟩ : ByteArray) ++ X2 ++ (⟨#[32]⟩ : ByteArray) ++ X3 ++ (⟨#[32]⟩ : ByteArray) ++ X4 ++ (⟨#[32]⟩ : ByteArray) ++ X5 ++ (⟨#[10]⟩ : ByteArray) = F2 at *
      have hOd : Only No Wa wr.drew := HO.out.drew
      have HEl : Hid ((es.map Prod.fst).length = es.length) := Lib.hid (by simp)
      have hk1b : True := trivial
      go_wp2_with fail
      go_loopg [7, 9] (es.length : Nat) (fun g v7 v9 wr => ∃ (i : Nat) (F : ByteArray), i + g = es.length ∧ v9 = .int .i64 i ∧ v7 = .string F ∧ F = toB (fedW (headsW ⟨n, prs, back, red, room, budget, seed⟩ ++ ((es.map Prod.fst).take i).map fun e => (lineM e).1)) ∧ evErr ((es.map Prod.fst).take i) = 0 ∧ Only No Wa wr)
      case atStart => exact ⟨0, F2, by omega, rfl, rfl, by simpa using HFn.out, rfl, hOd⟩
      case round =>
        obtain ⟨i, F, hig, rfl, rfl, hF, h0, hO⟩ := hrel
        have H0 := Lib.hid h0
        have hFs : F.size ≤ 300000000 := by
          rw [hF, toB_size]
          refine fed_take (fun x hx => HSub2.out x ?_) (by simp [headsW]; omega)
          unfold linesW
          rcases List.mem_append.1 hx with hx | hx
          · exact List.mem_append_left _ hx
          · obtain ⟨e, he, rfl⟩ := List.mem_map.1 hx
            exact List.mem_append_right _ (List.mem_map.2 ⟨e, List.mem_of_mem_take he, rfl⟩)
        have HF := Lib.hid hF
        have HO := Lib.hid hO
        clear h0 hF
        by_cases hlt : i < es.length
        · obtain ⟨a', cap', hq, -, hf, hsee⟩ := HLs.out.no (HA.out.2.trans hO)
          simp only [Value.slice.injEq] at hq
          obtain ⟨rfl, -, rfl⟩ := hq
          obtain ⟨b, off, rfl, hbl, hr⟩ := hf i hlt
          obtain ⟨hin, hdv⟩ := hsee _ (List.getElem_mem hlt)
          have HEi : Hid ((es.map Prod.fst)[i]'(by rw [HEl.out]; exact hlt) = es[i].1) := Lib.hid (by simp)
          have hlmem : ((lineM ((es.map Prod.fst)[i]'(by rw [HEl.out]; exact hlt))).1).length ≤ 1000000 := HSub2.out _ (List.mem_append_right _ (List.mem_map.2 ⟨_, List.getElem_mem _, rfl⟩))
          rw [HEi.out] at hlmem
          have hi0 : (0 : Int) ≤ (i : Int) := by omega
          have hil : (i : Int) < (es.length : Int) := by omega
          generalize es[i] = x at *
          obtain ⟨e, dv⟩ := x
          simp only at hin hdv hr HEi hlmem
          have hok := hin.ok
          have HLine := Lib.hid (reline_c e hin dv wr hdv)
          obtain ⟨t, er, hte⟩ : ∃ t er, (t, er) = lineM e := ⟨_, _, rfl⟩
          rw [← hte] at HLine hlmem
          have HTE := Lib.hid hte
          have zt : (ByteArray.mk t.toArray).size ≤ 1000000 := by show t.toArray.size ≤ 1000000; rw [List.size_toArray]; exact hlmem
          obtain ⟨TB, hTB⟩ : ∃ P : ByteArray, P = ⟨t.toArray⟩ := ⟨_, rfl⟩
          simp only at HLine
          rw [← hTB] at HLine zt
          have HTB := Lib.hid hTB
          have nn0 : ¬ 9223372036854775807 < F.size + TB.size := by omega
          have nn1 : ¬ 9223372036854775807 < F.size + TB.size + 1 := by omega
          clear hO hsee hf hdv hte hTB hlmem
          go_wp2_with (refine wpList_load_mid rfl 54 (.tmp 136) rfl b (off + i * 25) rfl (evL e dv) _ hr Try.underlying54 rfl (info_revA hok dv) ?_)
          refine HLine.out.mono ?_
          rintro y w7 ⟨rfl, hO7⟩
          by_cases her : er = 0
          · have hl2 : (lineM ((es.map Prod.fst)[i]'(by rw [HEl.out]; exact hlt))).2 = 0 := by rw [HEi.out, ← HTE.out]; exact her
            have HS : Hid (evErr ((es.map Prod.fst).take (i + 1)) = 0) := Lib.hid (evErr_snoc _ i (by rw [HEl.out]; exact hlt) H0.out hl2)
            have HTS : Hid (F ++ TB ++ (⟨#[10]⟩ : ByteArray) = toB (fedW (headsW ⟨n, prs, back, red, room, budget, seed⟩ ++ ((es.map Prod.fst).take (i + 1)).map fun e => (lineM e).1))) := Lib.hid (by
              rw [List.take_succ_eq_append_getElem (by rw [HEl.out]; exact hlt), List.map_append, ← List.append_assoc, List.map_cons, List.map_nil, fedW_snoc, HEi.out, ← HTE.out, List.append_assoc, toB_app, ← HF.out, HTB.out]
              refine ByteArray.ext (Array.ext' ?_)
              simp [toB, ByteArray.data_append])
            clear hl2
            subst her
            go_wp2_with fail
            go_roundg (es.length - (i + 1))
            case measure => omega
            case rel => exact ⟨i + 1, _, by omega, by go_num, rfl, HTS.out, HS.out, HO.out.trans hO7⟩
          · have HE : Hid (OUT = ([], er)) := Lib.hid (by
              have h2 : (lineM ((es.map Prod.fst)[i]'(by rw [HEl.out]; exact hlt))).2 = er := by rw [HEi.out, ← HTE.out]
              have h1 : evErr (es.map Prod.fst) = er := by
                rw [evErr_bad _ i (by rw [HEl.out]; exact hlt) H0.out (by rw [h2]; exact her), h2]
              rw [HM.out, h1, if_neg her])
            have hne : (er == 0) = false := beq_eq_false_iff_ne.2 her
            clear her
            go_wp2_with fail
            go_ret2
            exact ⟨by rw [HE.out]; rfl, HA.out.2.trans (HO.out.trans hO7)⟩
        · have hil : i = es.length := by omega
          subst hil
          have hEv : evErr (es.map Prod.fst) = 0 := by
            have := H0.out
            rw [← HEl.out, List.take_length] at this
            exact this
          have HE : Hid (OUT = (fedW (linesW ⟨n, prs, back, red, room, budget, seed⟩ (es.map Prod.fst)), 0)) := Lib.hid (by rw [HM.out, if_pos hEv])
          have HFin : Hid (F = toB (fedW (linesW ⟨n, prs, back, red, room, budget, seed⟩ (es.map Prod.fst)))) := Lib.hid (by
            rw [HF.out, ← HEl.out, List.take_length]
            rfl)
          have hill2 : ¬ (es.length : Int) < (es.length : Int) := by omega
          clear hEv hO
          go_wp2_with fail
          go_ret2
          exact ⟨by rw [HE.out, HFin.out]; rfl, HA.out.2.trans HO.out⟩
end Go.Proofs.Ytlilhdkaaendlaa
