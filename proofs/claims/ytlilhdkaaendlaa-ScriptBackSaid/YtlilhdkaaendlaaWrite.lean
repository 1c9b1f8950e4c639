/- script.Write: the text of a setup and of events. No statement is proved here. -/
import Derived.Test.YtlilhdkaaendlaaWriteS
namespace Go.Proofs.Ytlilhdkaaendlaa
open Go.RowKit

theorem own_new (W : World) (base : Nat) (hb : base ≤ W.heap.size) (xs : List Value) (e : TypeId) (hl : xs.length ≤ 1000000) : (W.alloc (.cells xs.toArray e)).ownsRow base e 1 (.slice (some ⟨W.heap.size, 0, none⟩) xs.length xs.length) xs.length xs :=
  ⟨by simp, .inr ⟨W.heap.size, xs.length, xs.toArray, rfl, hb, heap_alloc_new W _, Nat.le_refl _, by unfold maxLen; omega, by simp, by simp⟩⟩
theorem fed_len (m : Nat) : ∀ (l : List (List UInt8)), (∀ x ∈ l, x.length ≤ m) → (fedW l).length ≤ l.length * (m + 1)
  | [], _ => by simp [fedW]
  | a :: l, h => by
    have h1 := fed_len m l (fun x hx => h x (List.mem_cons_of_mem _ hx))
    have h2 := h a List.mem_cons_self
    have e : fedW (a :: l) = a ++ [10] ++ fedW l := by simp [fedW]
    rw [e]
    simp only [List.length_append, List.length_cons, List.length_nil, Nat.add_mul, Nat.one_mul]
    omega
theorem ans_len (b : Bool) : (ansW b).length ≤ 3000 := by cases b <;> decide
theorem join32_len : ∀ (l : List (List UInt8)), (∀ x ∈ l, x.length ≤ 3000) → (Lib.join l [32]).length ≤ l.length * 3001
  | [], _ => by simp [Lib.join]
  | [a], h => by
    have := h a List.mem_cons_self
    simp [Lib.join, List.intercalate, List.intersperse]
    omega
  | a :: b :: l, h => by
    have h1 := join32_len (b :: l) (fun x hx => h x (List.mem_cons_of_mem _ hx))
    have h2 := h a List.mem_cons_self
    have e : Lib.join (a :: b :: l) [32] = a ++ [32] ++ Lib.join (b :: l) [32] := by simp [Lib.join, List.intercalate, List.intersperse]
    rw [e]
    simp only [List.length_append, List.length_cons, List.length_nil] at *
    omega
theorem info_rules : (Try.prog.info? 28).map (·.size) = some 5 := by kernel_rfl
theorem linesW_len {su : Su} (hin : su.In) {l : List Ev} (hl : ∀ e ∈ l, e.In) (hsd : su.seed ≤ 9223372036854775807) : ∀ x ∈ linesW su l, x.length ≤ 1000000 := by
  have hb3 : ∀ ws : List (List UInt8), ws.length ≤ 6 → (∀ x ∈ ws, x.length ≤ 3000) → (Lib.join ws [32]).length ≤ 1000000 := fun ws h h2 => by
    have := join32_len ws h2
    omega
  intro x hx
  rcases List.mem_append.1 hx with hx | hx
  · unfold headsW at hx
    simp only [List.cons_append, List.mem_cons, List.mem_append, List.mem_map, List.not_mem_nil, or_false] at hx
    rcases hx with rfl | ⟨p, hp, rfl⟩ | rfl
    · refine hb3 _ (by simp) (fun y hy => ?_)
      simp only [List.mem_cons, List.not_mem_nil, or_false] at hy
      rcases hy with rfl | rfl
      · decide
      · exact prt_len _ hin.n.1 hin.n.2
    · refine hb3 _ (by simp) (fun y hy => ?_)
      obtain ⟨h1, h2⟩ := hin.pairs p hp
      simp only [List.mem_cons, List.not_mem_nil, or_false] at hy
      rcases hy with rfl | rfl | rfl
      · decide
      · exact prt_len _ (by omega) (by omega)
      · exact prt_len _ (by omega) (by omega)
    · refine hb3 _ (by simp) (fun y hy => ?_)
      simp only [List.mem_cons, List.not_mem_nil, or_false] at hy
      rcases hy with rfl | rfl | rfl | rfl | rfl | rfl
      · decide
      · exact ans_len _
      · exact ans_len _
      · exact prt_len _ hin.room.1 hin.room.2
      · exact prt_len _ hin.budget.1 hin.budget.2
      · have := hin.seed; exact prt_len _ (by omega) (by have := hsd; omega)
  · obtain ⟨e, he, rfl⟩ := List.mem_map.1 hx
    have := text_len (hl e he)
    unfold lineM
    split
    · simp
    · exact this
set_option maxRecDepth 100000 in
set_option maxHeartbeats 6400000 in
theorem write_c (su : Su) (hin : su.In) (pv : Value) (es : List (Ev × Value)) (lv : Value) (w : World) (hp : PrS w pv su.pairs) (hl : EvS w lv es) (hpn : su.pairs.length ≤ 30) (hen : es.length ≤ 90) :
    Calls Try.prog 23 #[suV su pv, lv] w fun x w' => x = .returned (.tuple #[.string (toB (writeM su (es.map Prod.fst)).1), .int .i64 (writeM su (es.map Prod.fst)).2]) ∧ Only No w w' := by
  have HLL := fun (h : su.seed ≤ 9223372036854775807) => Lib.hid (linesW_len hin (l := es.map Prod.fst) (fun e he => by
    obtain ⟨x, hx, rfl⟩ := List.mem_map.1 he
    obtain ⟨a, cap, -, -, -, hs⟩ := hl
    exact (hs x hx).1) h)
  obtain ⟨OUT, hOUT⟩ : ∃ o, o = writeM su (es.map Prod.fst) := ⟨_, rfl⟩
  rw [← hOUT]
  have HOUT := Lib.hid hOUT
  have HIN := Lib.hid hin
  have HP := Lib.hid hp
  have HLs := Lib.hid hl
  clear hOUT
  obtain ⟨a0, cap0, rfl, -⟩ := hl
  obtain ⟨n, prs, back, red, room, budget, seed⟩ := su
  obtain ⟨ap, capp, rfl, -⟩ := hp.form
  simp only at hpn ⊢
  clear hp hin
  have HW1 := fun W : World => Lib.hid (within_c n 1 16 W)
  have HW2 := fun W : World => Lib.hid (within_c room 0 2147483647 W)
  have HW3 := fun W : World => Lib.hid (within_c budget 0 2147483647 W)
  have hWA : ∃ Wa : World, Wa = (w.alloc (.cells #[.int .i64 n, .slice ap prs.length capp, .bool back, .bool red, .int .i64 room, .int .i64 budget, .int .u64 seed] 30)).alloc (.cells #[.bool back, .bool red, .int .i64 room, .int .i64 budget, .int .u64 seed] 28) ∧
      Blk Wa w.heap.size #[.int .i64 n, .slice ap prs.length capp, .bool back, .bool red, .int .i64 room, .int .i64 budget, .int .u64 seed] 30 ∧ Blk Wa (w.heap.size + 1) #[.bool back, .bool red, .int .i64 room, .int .i64 budget, .int .u64 seed] 28 ∧ Only No w Wa := by
    refine ⟨_, rfl, (Blk.new w #[.int .i64 n, .slice ap prs.length capp, .bool back, .bool red, .int .i64 room, .int .i64 budget, .int .u64 seed] 30).alloc _, ?_, ((Only.refl _ _).alloc _).alloc _⟩
    have := Blk.new (w.alloc (.cells #[.int .i64 n, .slice ap prs.length capp, .bool back, .bool red, .int .i64 room, .int .i64 budget, .int .u64 seed] 30)) #[.bool back, .bool red, .int .i64 room, .int .i64 budget, .int .u64 seed] 28
    have h0 : (w.alloc (.cells #[.int .i64 n, .slice ap prs.length capp, .bool back, .bool red, .int .i64 room, .int .i64 budget, .int .u64 seed] 30)).heap.size = w.heap.size + 1 := by simp
    rw [h0] at this
    exact this
  obtain ⟨Wa, hWa, hB0, hB1, hOw⟩ := hWA
  have HA := Lib.hid (And.intro hB0 (And.intro hB1 hOw))
  have HWA := Lib.hid hWa
  have k00 : Wa.cell? ⟨w.heap.size, 0, none⟩ = some (.int .i64 n) := hB0.cell 0 _ rfl
  have k12 : Wa.cell? ⟨w.heap.size + 1, 2, none⟩ = some (.int .i64 room) := hB1.cell 2 _ rfl
  have k13 : Wa.cell? ⟨w.heap.size + 1, 3, none⟩ = some (.int .i64 budget) := hB1.cell 3 _ rfl
  have k14 : Wa.cell? ⟨w.heap.size + 1, 4, none⟩ = some (.int .u64 seed) := hB1.cell 4 _ rfl
  clear hB0 hB1 hOw hWa
  cases b1 : withinB n 1 16
  · rw [b1] at HW1
    have HM : Hid (OUT = ([], 1)) := Lib.hid (by rw [HOUT.out]; unfold writeM okSu; rw [if_neg (by simp [b1])])
    go_enter Try.func23, Try.ntmps23
    unfold suV suL
    go_upto_region 3 with fail
    rw [← HWA.out]
    go_wp2_with fail
    refine (HW1 _).out.mono ?_
    rintro x w' ⟨rfl, rfl⟩
    go_wp2_with fail
    go_ret2
    exact ⟨by rw [HM.out]; rfl, HA.out.2.2⟩
  rw [b1] at HW1
  cases b2 : withinB room 0 2147483647
  · rw [b2] at HW2
    have HM : Hid (OUT = ([], 1)) := Lib.hid (by rw [HOUT.out]; unfold writeM okSu; rw [if_neg (by simp [b2])])
    go_enter Try.func23, Try.ntmps23
    unfold suV suL
    go_upto_region 3 with fail
    rw [← HWA.out]
    go_wp2_with fail
    refine (HW1 _).out.mono ?_
    rintro x w' ⟨rfl, rfl⟩
    go_wp2_with fail
    refine (HW2 _).out.mono ?_
    rintro x w' ⟨rfl, rfl⟩
    go_wp2_with fail
    go_ret2
    exact ⟨by rw [HM.out]; rfl, HA.out.2.2⟩
  rw [b2] at HW2
  cases b3 : withinB budget 0 2147483647
  · rw [b3] at HW3
    have HM : Hid (OUT = ([], 1)) := Lib.hid (by rw [HOUT.out]; unfold writeM okSu; rw [if_neg (by simp [b3])])
    go_enter Try.func23, Try.ntmps23
    unfold suV suL
    go_upto_region 3 with fail
    rw [← HWA.out]
    go_wp2_with fail
    refine (HW1 _).out.mono ?_
    rintro x w' ⟨rfl, rfl⟩
    go_wp2_with fail
    refine (HW2 _).out.mono ?_
    rintro x w' ⟨rfl, rfl⟩
    go_wp2_with fail
    refine (HW3 _).out.mono ?_
    rintro x w' ⟨rfl, rfl⟩
    go_wp2_with fail
    go_ret2
    exact ⟨by rw [HM.out]; rfl, HA.out.2.2⟩
  rw [b3] at HW3
  by_cases b4 : 9223372036854775807 < seed
  · have b5 : ¬ seed ≤ 9223372036854775807 := by omega
    have HM : Hid (OUT = ([], 1)) := Lib.hid (by rw [HOUT.out]; unfold writeM okSu; rw [if_neg (by simp [b5])])
    go_enter Try.func23, Try.ntmps23
    unfold suV suL
    go_upto_region 3 with fail
    rw [← HWA.out]
    go_wp2_with fail
    refine (HW1 _).out.mono ?_
    rintro x w' ⟨rfl, rfl⟩
    go_wp2_with fail
    refine (HW2 _).out.mono ?_
    rintro x w' ⟨rfl, rfl⟩
    go_wp2_with fail
    refine (HW3 _).out.mono ?_
    rintro x w' ⟨rfl, rfl⟩
    go_wp2_with fail
    go_ret2
    exact ⟨by rw [HM.out]; rfl, HA.out.2.2⟩
  have b5 : seed ≤ 9223372036854775807 := by omega
  have HM : Hid (OUT = if evErr (es.map Prod.fst) = 0 then (fedW (linesW ⟨n, prs, back, red, room, budget, seed⟩ (es.map Prod.fst)), 0) else ([], evErr (es.map Prod.fst))) := Lib.hid (by
    rw [HOUT.out]
    unfold writeM
    rw [if_pos (show okSu ⟨n, prs, back, red, room, budget, seed⟩ = true by unfold okSu; rw [b1, b2, b3, decide_eq_true b5]; rfl)])
  clear b1 b2 b3
  go_enter Try.func23, Try.ntmps23
  unfold suV suL
  go_upto_region 3 with fail
  rw [← HWA.out]
  go_wp2_with fail
  refine (HW1 _).out.mono ?_
  rintro x w' ⟨rfl, rfl⟩
  go_wp2_with fail
  refine (HW2 _).out.mono ?_
  rintro x w' ⟨rfl, rfl⟩
  go_wp2_with fail
  refine (HW3 _).out.mono ?_
  rintro x w' ⟨rfl, rfl⟩
  clear HW1 HW2 HW3 k12 k13
  have HN := fun W : World => Lib.hid (print_c n W HIN.out.n.1 HIN.out.n.2)
  go_wp2_with fail
  refine (HN _).out.mono ?_
  rintro x w3 ⟨rfl, hO3⟩
  go_wp2_with fail
  refine (line2_c w3 [[114, 101, 112, 108, 105, 99, 97, 115], printM n] (by simp) (by simp) (fun y hy => by
    simp only [List.mem_cons, List.not_mem_nil, or_false] at hy
    rcases hy with rfl | rfl
    · decide
    · exact prt_len _ HIN.out.n.1 HIN.out.n.2)).mono ?_
  rintro x w4 ⟨rfl, hO4⟩
  have HW5 : Hid (∃ w5 : World, w5 = w4.alloc (.cells #[.string (toB (Lib.join [[114, 101, 112, 108, 105, 99, 97, 115], printM n] [32]))] 9) ∧ Only No Wa w5 ∧ Bun w5 Wa.heap.size [(9, 1, .slice (some ⟨w4.heap.size, 0, none⟩) 1 1, 1, strsV [hdW n])]) := Lib.hid (by
    have hO34 := hO3.trans hO4
    refine ⟨_, rfl, hO34.alloc _, ?_⟩
    have h := own_new w4 Wa.heap.size hO34.size (strsV [hdW n]) 9 (by simp [strsV])
    refine ⟨fun i r hr => ?_, fun i j r s b hi hj _ _ => ?_⟩
    · match i, hr with
      | 0, hr => obtain rfl : _ = r := Option.some.inj hr; exact h
      | i + 1, hr => simp at hr
    · match i, j, hi, hj with
      | 0, 0, _, _ => rfl
      | i + 1, _, hi, _ => simp at hi
      | 0, j + 1, _, hj => simp at hj)
  clear hO3 hO4 HN
  go_upto_region 7 with fail
  obtain ⟨w50, hw5, hO5, hBun5⟩ := HW5.out
  subst hw5
  generalize w4.alloc (.cells #[.string (toB (Lib.join [[114, 101, 112, 108, 105, 99, 97, 115], printM n] [32]))] 9) = w5 at *
  have HP5 := Lib.hid (HP.out.no (HA.out.2.2.trans hO5))
  have hk1 : w5.cell? ⟨w.heap.size, 1, none⟩ = some (.slice ap prs.length capp) := (hO5.blk HA.out.1 id).cell 1 _ rfl
  clear k00 k14
  go_wp2_with fail
  go_loopg [9, 53] (prs.length : Nat) (fun g v9 v53 wr => ∃ i : Nat, i + g = prs.length ∧ v53 = .int .i64 i ∧ Bun wr Wa.heap.size [(9, 1, v9, i + 1, strsV (hdW n :: (prs.take i).map jnW))] ∧ Only No Wa wr)
  case atStart => exact ⟨0, by omega, rfl, hBun5, hO5⟩
  case round =>
    obtain ⟨i, hig, rfl, hB, hO⟩ := hrel
    obtain ⟨a9, c9, rfl⟩ := bun_form hB 0 rfl
    have hzr := hO.size
    by_cases hlt : i < prs.length
    · obtain ⟨ap', cp', hq, hcells⟩ := HP.out.form
      simp only [Value.slice.injEq] at hq
      obtain ⟨rfl, -, rfl⟩ := hq
      obtain ⟨b, off, rfl, hbl, p0, p1⟩ := hcells i hlt
      have hpin := HIN.out.pairs prs[i] (List.getElem_mem hlt)
      have hOr := HA.out.2.2.trans hO
      have p0' := (hOr.cell (p := ⟨b, off + i * 2, none⟩) hbl id).trans p0
      have p1' := (hOr.cell (p := ⟨b, off + i * 2 + 1, none⟩) hbl id).trans p1
      have hts : strsV (hdW n :: (prs.take (i + 1)).map jnW) = strsV (hdW n :: (prs.take i).map jnW) ++ [.string (toB (jnW prs[i]))] := by
        rw [List.take_succ_eq_append_getElem hlt, List.map_append, ← List.cons_append, List.map_cons, List.map_nil, strsV_snoc]
      have HTS := Lib.hid hts
      have hi0 : (0 : Int) ≤ (i : Int) := by omega
      have hil : (i : Int) < (prs.length : Int) := by omega
      have HB := Lib.hid hB
      have HO := Lib.hid hO
      have hown : ∀ k, (Value.slice a9 (i + 1) c9).ownBlock = some k → Wa.heap.size ≤ k ∧ k < wr.heap.size := fun k hk => (hB.owns 0 _ rfl).lt hk
      have HOwn := Lib.hid hown
      generalize prs[i] = x at *
      obtain ⟨x1, x2⟩ := x
      simp only at hpin p0' p1' HTS
      obtain ⟨⟨hx0, hx1⟩, hy0, hy1⟩ := hpin
      have HN1 := Lib.hid (fun W : World => print_c x1 W (by omega) (by omega))
      have HN2 := Lib.hid (fun W : World => print_c x2 W (by omega) (by omega))
      have hw1 : IntKind.i64.wrap x1 = x1 := IntWalk.i64_in _ (by omega)
      have hw2 : IntKind.i64.wrap x2 = x2 := IntWalk.i64_in _ (by omega)
      have HL1 : Hid (∀ y ∈ [[106, 111, 105, 110], printM x1, printM x2], y.length ≤ 3000) := Lib.hid (fun y hy => by
        simp only [List.mem_cons, List.not_mem_nil, or_false] at hy
        rcases hy with rfl | rfl | rfl
        · decide
        · exact prt_len _ (by omega) (by omega)
        · exact prt_len _ (by omega) (by omega))
      obtain ⟨i0, hi, hz0, hz1, hz2⟩ := info_parts info_str
      have hbP := Blk.new wr #[.int .u8 x1, .int .u8 x2] 90
      have hOP : Only No wr (wr.alloc (.cells #[.int .u8 x1, .int .u8 x2] 90)) := (Only.refl _ _).alloc _
      clear hB hO hts p0 p1 hcells hbl hOr hown hk1
      go_upto_region 10 with fail
      generalize wr.alloc (.cells #[.int .u8 x1, .int .u8 x2] 90) = w6 at *
      clear p0' p1'
      refine wp_region_held_drew (S := fun w' => Blk w' wr.heap.size #[.int .u8 x1, .int .u8 x2] 90) (by kernel_rfl) hbP (fun hHeld => ?_)
      refine wpAnyH_take (i := 0) (v := .slice a9 (i + 1) c9) rfl (by kernel_rfl) (by kernel_rfl) (by kernel_rfl) (fun _ _ _ h => h) (Or.inl ⟨by rfl, ?_⟩) hHeld ?_
      · intro W hSw
        go_simp
      try simp only [List.getElem_toArray, List.getElem_cons_zero, Act.put, List.setIfInBounds_toArray, List.set_cons_zero, List.set_cons_succ]
      refine wpAnyH_take (i := 1) (v := .pointer (some ⟨wr.heap.size, 0, none⟩)) rfl (by kernel_rfl) (by kernel_rfl) (by kernel_rfl) (fun _ _ _ h => h) (Or.inl ⟨by rfl, ?_⟩) hHeld ?_
      · intro W hSw
        go_simp
      try simp only [List.getElem_toArray, List.getElem_cons_zero, List.getElem_cons_succ, Act.put, List.setIfInBounds_toArray, List.set_cons_zero, List.set_cons_succ]
      refine wpAnyH_take (i := 2) (v := .int .u8 x1) rfl (by kernel_rfl) (by kernel_rfl) (by kernel_rfl) (fun _ _ _ h => h) (Or.inl ⟨by rfl, ?_⟩) hHeld ?_
      · intro W hSw
        have hcl : W.cell? ⟨wr.heap.size, 0, none⟩ = some (.int .u8 x1) := hSw.cell 0 _ rfl
        go_simp
      try simp only [List.getElem_toArray, List.getElem_cons_zero, List.getElem_cons_succ, Act.put, List.setIfInBounds_toArray, List.set_cons_zero, List.set_cons_succ]
      refine wpAnyH_take (i := 3) (v := .int .i64 x1) rfl (by kernel_rfl) (by kernel_rfl) (by kernel_rfl) (fun _ _ _ h => h) (Or.inl ⟨by rfl, ?_⟩) hHeld ?_
      · intro W hSw
        go_simp
      try simp only [List.getElem_toArray, List.getElem_cons_zero, List.getElem_cons_succ, Act.put, List.setIfInBounds_toArray, List.set_cons_zero, List.set_cons_succ]
      refine wpAnyH_take (i := 5) (v := .pointer (some ⟨wr.heap.size, 1, none⟩)) rfl (by kernel_rfl) (by kernel_rfl) (by kernel_rfl) (fun _ _ _ h => h) (Or.inl ⟨by rfl, ?_⟩) hHeld ?_
      · intro W hSw
        go_simp
      try simp only [List.getElem_toArray, List.getElem_cons_zero, List.getElem_cons_succ, Act.put, List.setIfInBounds_toArray, List.set_cons_zero, List.set_cons_succ]
      refine wpAnyH_take (i := 6) (v := .int .u8 x2) rfl (by kernel_rfl) (by kernel_rfl) (by kernel_rfl) (fun _ _ _ h => h) (Or.inl ⟨by rfl, ?_⟩) hHeld ?_
      · intro W hSw
        have hcl : W.cell? ⟨wr.heap.size, 1, none⟩ = some (.int .u8 x2) := hSw.cell 1 _ rfl
        go_simp
      try simp only [List.getElem_toArray, List.getElem_cons_zero, List.getElem_cons_succ, Act.put, List.setIfInBounds_toArray, List.set_cons_zero, List.set_cons_succ]
      refine wpAnyH_take (i := 7) (v := .int .i64 x2) rfl (by kernel_rfl) (by kernel_rfl) (by kernel_rfl) (fun _ _ _ h => h) (Or.inl ⟨by rfl, ?_⟩) hHeld ?_
      · intro W hSw
        go_simp
      try simp only [List.getElem_toArray, List.getElem_cons_zero, List.getElem_cons_succ, Act.put, List.setIfInBounds_toArray, List.set_cons_zero, List.set_cons_succ]
      refine wpAnyH_ready (rs := [4]) (by kernel_rfl) (by simp) ?_
      refine AllReadyH.cons rfl (fun K hK => ?_) AllReadyH.nil
      simp only [List.getElem_toArray, List.getElem_cons_zero, List.getElem_cons_succ]
      go_simp
      refine (HN1.out _).mono ?_
      rintro y y1 ⟨rfl, hq1⟩
      have hq1' := hq1.of_drew
      refine hK.out _ _ (hq1'.blk hHeld id) (fun hHeld => ?_)
      clear hK K
      try simp only [List.getElem_toArray, List.getElem_cons_zero, List.getElem_cons_succ, Act.put, List.setIfInBounds_toArray, List.set_cons_zero, List.set_cons_succ]
      refine wpAnyH_ready (rs := [8]) (by kernel_rfl) (by simp) ?_
      refine AllReadyH.cons rfl (fun K hK => ?_) AllReadyH.nil
      simp only [List.getElem_toArray, List.getElem_cons_zero, List.getElem_cons_succ]
      go_simp
      refine (HN2.out _).mono ?_
      rintro y y2 ⟨rfl, hq2⟩
      have hq12 := hq1'.trans hq2
      refine hK.out _ _ (hq2.blk hHeld id) (fun hHeld => ?_)
      clear hK K
      try simp only [List.getElem_toArray, List.getElem_cons_zero, List.getElem_cons_succ, Act.put, List.setIfInBounds_toArray, List.set_cons_zero, List.set_cons_succ]
      refine wpAnyH_ready (rs := [9]) (by kernel_rfl) (by simp) ?_
      refine AllReadyH.cons rfl (fun K hK => ?_) AllReadyH.nil
      simp only [List.getElem_toArray, List.getElem_cons_zero, List.getElem_cons_succ]
      go_simp
      refine hK.out _ _ (((Only.refl No y2).alloc _).blk hHeld id) (fun hHeld => ?_)
      clear hK K
      try simp only [List.getElem_toArray, List.getElem_cons_zero, List.getElem_cons_succ, Act.put, List.setIfInBounds_toArray, List.set_cons_zero, List.set_cons_succ]
      refine wpAnyH_ready (rs := [10]) (by kernel_rfl) (by simp) ?_
      refine AllReadyH.cons rfl (fun K hK => ?_) AllReadyH.nil
      simp only [List.getElem_toArray, List.getElem_cons_zero, List.getElem_cons_succ]
      go_simp
      refine (line2_c y2 [[106, 111, 105, 110], printM x1, printM x2] (by simp) (by simp) HL1.out).mono ?_
      rintro y y3 ⟨rfl, hq3⟩
      have hq13 := hq12.trans hq3
      refine hK.out _ _ (hq13.blk hbP id) (fun hHeld => ?_)
      clear hK K
      try simp only [List.getElem_toArray, List.getElem_cons_zero, List.getElem_cons_succ, Act.put, List.setIfInBounds_toArray, List.set_cons_zero, List.set_cons_succ]
      refine wpAnyH_ready (rs := [11]) (by kernel_rfl) (by simp) ?_
      refine AllReadyH.cons rfl (fun K hK => ?_) AllReadyH.nil
      simp only [List.getElem_toArray, List.getElem_cons_zero, List.getElem_cons_succ]
      go_simp
      refine hK.out _ _ (((Only.refl No y3).alloc _).blk hHeld id) (fun hHeld => ?_)
      clear hK K
      try simp only [List.getElem_toArray, List.getElem_cons_zero, List.getElem_cons_succ, Act.put, List.setIfInBounds_toArray, List.set_cons_zero, List.set_cons_succ]
      have hO3' : Only No wr y3 := hOP.trans hq13
      have hBy := HB.out.only hO3' (fun _ _ h => h)
      have hz3' := hO3'.size
      refine wpAnyH_ready (rs := [12]) (by kernel_rfl) (by simp) ?_
      refine AllReadyH.cons rfl (fun K hK => ?_) AllReadyH.nil
      refine step_append2 0 (by rfl) (.tmp 57) (.tmp 68) 75 (by rfl) Wa.heap.size 9 i0 (.string ⟨#[]⟩) 1 16 Try.underlying75 hi hz0 hz1 hz2 rfl (by decide) _ hBy 0 _ _ _ rfl (by rfl) [.string (toB (jnW (x1, x2)))] _ y3.heap.size rfl (by rfl) rfl (by simp [Value.oneCell']) (by unfold maxLen; omega) (by omega) (by omega) (by rfl) ?_
      intro g capn y4 hBn hOn hat
      refine hK.out _ _ (hOn.blk (hq13.blk hbP id) (fun e => by have := HOwn.out _ e; omega)) (fun hHeld => ?_)
      clear hK K
      try simp only [List.getElem_toArray, List.getElem_cons_zero, List.getElem_cons_succ, Act.put, List.setIfInBounds_toArray, List.set_cons_zero, List.set_cons_succ]
      refine wpAnyH_take (i := 13) (v := .slice (some ⟨g, 0, none⟩) (i + 1 + 1) capn) rfl (by kernel_rfl) (by kernel_rfl) (by kernel_rfl) (fun _ _ _ h => h) (Or.inl ⟨by rfl, ?_⟩) hHeld ?_
      · intro W hSw
        go_simp
      try simp only [List.getElem_toArray, List.getElem_cons_zero, List.getElem_cons_succ, Act.put, List.setIfInBounds_toArray, List.set_cons_zero, List.set_cons_succ]
      refine wpAnyH_done (by kernel_rfl) ?_ _
      have hO4 : Only No Wa y4 := (HO.out.trans hO3').then hOn (fun k hk e => by have := HOwn.out _ e; omega)
      clear hq1 hq1' hq2 hq12 hq3 hq13 hO3' hBy hOn hOP hbP
      go_wp2_with fail
      go_roundg (prs.length - (i + 1))
      case measure => omega
      case rel => exact ⟨i + 1, by omega, by go_num, by rw [HTS.out]; simpa [List.set] using hBn, hO4⟩
    · have hil : i = prs.length := by omega
      subst hil
      rw [List.take_length] at hB
      have hzr2 := hO.size
      have hbR := hO.blk HA.out.2.1 id
      have HB := Lib.hid hB
      have HO := Lib.hid hO
      have HOwn := Lib.hid (fun (k : Nat) (hk : (Value.slice a9 (prs.length + 1) c9).ownBlock = some k) => (hB.owns 0 _ rfl).lt hk)
      obtain ⟨i0, hi, hz0, hz1, hz2⟩ := info_parts info_str
      have HN3 := Lib.hid (fun W : World => print_c room W HIN.out.room.1 HIN.out.room.2)
      have HN4 := Lib.hid (fun W : World => print_c budget W HIN.out.budget.1 HIN.out.budget.2)
      have hsd0 : 0 ≤ seed := HIN.out.seed.1
      have HN5 := Lib.hid (fun W : World => print_c seed W (by omega) b5)
      have hw5 : IntKind.i64.wrap seed = seed := IntWalk.i64_in _ (by omega)
      have HL1 : Hid (∀ y ∈ [[114, 117, 108, 101, 115], ansW back, ansW red, printM room, printM budget, printM seed], y.length ≤ 3000) := Lib.hid (fun y hy => by
        simp only [List.mem_cons, List.not_mem_nil, or_false] at hy
        rcases hy with rfl | rfl | rfl | rfl | rfl | rfl
        · decide
        · exact ans_len _
        · exact ans_len _
        · exact prt_len _ HIN.out.room.1 HIN.out.room.2
        · exact prt_len _ HIN.out.budget.1 HIN.out.budget.2
        · exact prt_len _ (by omega) b5)
      have hill : ¬ (prs.length : Int) < (prs.length : Int) := by omega
      clear hB hO
      go_upto_region 12 with fail
      refine wp_region_held_drew (S := fun w' => Blk w' (w.heap.size + 1) #[.bool back, .bool red, .int .i64 room, .int .i64 budget, .int .u64 seed] 28) (by kernel_rfl) hbR (fun hHeld => ?_)
      refine wpAnyH_take (i := 0) (v := .slice a9 (prs.length + 1) c9) rfl (by kernel_rfl) (by kernel_rfl) (by kernel_rfl) (fun _ _ _ h => h) (Or.inl ⟨by rfl, ?_⟩) hHeld ?_
      · intro W hSw
        go_simp
      try simp only [List.getElem_toArray, List.getElem_cons_zero, Act.put, List.setIfInBounds_toArray, List.set_cons_zero, List.set_cons_succ]
      refine wpAnyH_take (i := 1) (v := .func (.func 48) #[] #[]) rfl (by kernel_rfl) (by kernel_rfl) (by kernel_rfl) (fun _ _ _ h => h) (Or.inl ⟨by rfl, ?_⟩) hHeld ?_
      · intro W hSw
        go_simp
      try simp only [List.getElem_toArray, List.getElem_cons_zero, List.getElem_cons_succ, Act.put, List.setIfInBounds_toArray, List.set_cons_zero, List.set_cons_succ]
      refine wpAnyH_take (i := 2) (v := .pointer (some ⟨w.heap.size + 1, 0, none⟩)) rfl (by kernel_rfl) (by kernel_rfl) (by kernel_rfl) (fun _ _ _ h => h) (Or.inl ⟨by rfl, ?_⟩) hHeld ?_
      · intro W hSw
        go_simp
      try simp only [List.getElem_toArray, List.getElem_cons_zero, List.getElem_cons_succ, Act.put, List.setIfInBounds_toArray, List.set_cons_zero, List.set_cons_succ]
      refine wpAnyH_take (i := 3) (v := .pointer (some ⟨w.heap.size + 1, 0, none⟩)) rfl (by kernel_rfl) (by kernel_rfl) (by kernel_rfl) (fun _ _ _ h => h) (Or.inl ⟨by rfl, ?_⟩) hHeld ?_
      · intro W hSw
        go_simp
      try simp only [List.getElem_toArray, List.getElem_cons_zero, List.getElem_cons_succ, Act.put, List.setIfInBounds_toArray, List.set_cons_zero, List.set_cons_succ]
      refine wpAnyH_take (i := 4) (v := .bool back) rfl (by kernel_rfl) (by kernel_rfl) (by kernel_rfl) (fun _ _ _ h => h) (Or.inl ⟨by rfl, ?_⟩) hHeld ?_
      · intro W hSw
        have hcl : W.cell? ⟨w.heap.size + 1, 0, none⟩ = some (.bool back) := hSw.cell 0 _ rfl
        go_simp
      try simp only [List.getElem_toArray, List.getElem_cons_zero, List.getElem_cons_succ, Act.put, List.setIfInBounds_toArray, List.set_cons_zero, List.set_cons_succ]
      refine wpAnyH_take (i := 6) (v := .func (.func 48) #[] #[]) rfl (by kernel_rfl) (by kernel_rfl) (by kernel_rfl) (fun _ _ _ h => h) (Or.inl ⟨by rfl, ?_⟩) hHeld ?_
      · intro W hSw
        go_simp
      try simp only [List.getElem_toArray, List.getElem_cons_zero, List.getElem_cons_succ, Act.put, List.setIfInBounds_toArray, List.set_cons_zero, List.set_cons_succ]
      refine wpAnyH_take (i := 7) (v := .pointer (some ⟨w.heap.size + 1, 0, none⟩)) rfl (by kernel_rfl) (by kernel_rfl) (by kernel_rfl) (fun _ _ _ h => h) (Or.inl ⟨by rfl, ?_⟩) hHeld ?_
      · intro W hSw
        go_simp
      try simp only [List.getElem_toArray, List.getElem_cons_zero, List.getElem_cons_succ, Act.put, List.setIfInBounds_toArray, List.set_cons_zero, List.set_cons_succ]
      refine wpAnyH_take (i := 8) (v := .pointer (some ⟨w.heap.size + 1, 1, none⟩)) rfl (by kernel_rfl) (by kernel_rfl) (by kernel_rfl) (fun _ _ _ h => h) (Or.inl ⟨by rfl, ?_⟩) hHeld ?_
      · intro W hSw
        go_simp
      try simp only [List.getElem_toArray, List.getElem_cons_zero, List.getElem_cons_succ, Act.put, List.setIfInBounds_toArray, List.set_cons_zero, List.set_cons_succ]
      refine wpAnyH_take (i := 9) (v := .bool red) rfl (by kernel_rfl) (by kernel_rfl) (by kernel_rfl) (fun _ _ _ h => h) (Or.inl ⟨by rfl, ?_⟩) hHeld ?_
      · intro W hSw
        have hcl : W.cell? ⟨w.heap.size + 1, 1, none⟩ = some (.bool red) := hSw.cell 1 _ rfl
        go_simp
      try simp only [List.getElem_toArray, List.getElem_cons_zero, List.getElem_cons_succ, Act.put, List.setIfInBounds_toArray, List.set_cons_zero, List.set_cons_succ]
      refine wpAnyH_take (i := 11) (v := .pointer (some ⟨w.heap.size + 1, 0, none⟩)) rfl (by kernel_rfl) (by kernel_rfl) (by kernel_rfl) (fun _ _ _ h => h) (Or.inl ⟨by rfl, ?_⟩) hHeld ?_
      · intro W hSw
        go_simp
      try simp only [List.getElem_toArray, List.getElem_cons_zero, List.getElem_cons_succ, Act.put, List.setIfInBounds_toArray, List.set_cons_zero, List.set_cons_succ]
      refine wpAnyH_take (i := 12) (v := .pointer (some ⟨w.heap.size + 1, 2, none⟩)) rfl (by kernel_rfl) (by kernel_rfl) (by kernel_rfl) (fun _ _ _ h => h) (Or.inl ⟨by rfl, ?_⟩) hHeld ?_
      · intro W hSw
        go_simp
      try simp only [List.getElem_toArray, List.getElem_cons_zero, List.getElem_cons_succ, Act.put, List.setIfInBounds_toArray, List.set_cons_zero, List.set_cons_succ]
      refine wpAnyH_take (i := 13) (v := .int .i64 room) rfl (by kernel_rfl) (by kernel_rfl) (by kernel_rfl) (fun _ _ _ h => h) (Or.inl ⟨by rfl, ?_⟩) hHeld ?_
      · intro W hSw
        have hcl : W.cell? ⟨w.heap.size + 1, 2, none⟩ = some (.int .i64 room) := hSw.cell 2 _ rfl
        go_simp
      try simp only [List.getElem_toArray, List.getElem_cons_zero, List.getElem_cons_succ, Act.put, List.setIfInBounds_toArray, List.set_cons_zero, List.set_cons_succ]
      refine wpAnyH_take (i := 15) (v := .pointer (some ⟨w.heap.size + 1, 0, none⟩)) rfl (by kernel_rfl) (by kernel_rfl) (by kernel_rfl) (fun _ _ _ h => h) (Or.inl ⟨by rfl, ?_⟩) hHeld ?_
      · intro W hSw
        go_simp
      try simp only [List.getElem_toArray, List.getElem_cons_zero, List.getElem_cons_succ, Act.put, List.setIfInBounds_toArray, List.set_cons_zero, List.set_cons_succ]
      refine wpAnyH_take (i := 16) (v := .pointer (some ⟨w.heap.size + 1, 3, none⟩)) rfl (by kernel_rfl) (by kernel_rfl) (by kernel_rfl) (fun _ _ _ h => h) (Or.inl ⟨by rfl, ?_⟩) hHeld ?_
      · intro W hSw
        go_simp
      try simp only [List.getElem_toArray, List.getElem_cons_zero, List.getElem_cons_succ, Act.put, List.setIfInBounds_toArray, List.set_cons_zero, List.set_cons_succ]
      refine wpAnyH_take (i := 17) (v := .int .i64 budget) rfl (by kernel_rfl) (by kernel_rfl) (by kernel_rfl) (fun _ _ _ h => h) (Or.inl ⟨by rfl, ?_⟩) hHeld ?_
      · intro W hSw
        have hcl : W.cell? ⟨w.heap.size + 1, 3, none⟩ = some (.int .i64 budget) := hSw.cell 3 _ rfl
        go_simp
      try simp only [List.getElem_toArray, List.getElem_cons_zero, List.getElem_cons_succ, Act.put, List.setIfInBounds_toArray, List.set_cons_zero, List.set_cons_succ]
      refine wpAnyH_take (i := 19) (v := .pointer (some ⟨w.heap.size + 1, 4, none⟩)) rfl (by kernel_rfl) (by kernel_rfl) (by kernel_rfl) (fun _ _ _ h => h) (Or.inl ⟨by rfl, ?_⟩) hHeld ?_
      · intro W hSw
        go_simp
      try simp only [List.getElem_toArray, List.getElem_cons_zero, List.getElem_cons_succ, Act.put, List.setIfInBounds_toArray, List.set_cons_zero, List.set_cons_succ]
      refine wpAnyH_take (i := 20) (v := .int .u64 seed) rfl (by kernel_rfl) (by kernel_rfl) (by kernel_rfl) (fun _ _ _ h => h) (Or.inl ⟨by rfl, ?_⟩) hHeld ?_
      · intro W hSw
        have hcl : W.cell? ⟨w.heap.size + 1, 4, none⟩ = some (.int .u64 seed) := hSw.cell 4 _ rfl
        go_simp
      try simp only [List.getElem_toArray, List.getElem_cons_zero, List.getElem_cons_succ, Act.put, List.setIfInBounds_toArray, List.set_cons_zero, List.set_cons_succ]
      refine wpAnyH_take (i := 21) (v := .int .i64 seed) rfl (by kernel_rfl) (by kernel_rfl) (by kernel_rfl) (fun _ _ _ h => h) (Or.inl ⟨by rfl, ?_⟩) hHeld ?_
      · intro W hSw
        go_simp
      try simp only [List.getElem_toArray, List.getElem_cons_zero, List.getElem_cons_succ, Act.put, List.setIfInBounds_toArray, List.set_cons_zero, List.set_cons_succ]
      refine wpAnyH_ready (rs := [5]) (by kernel_rfl) (by simp) ?_
      refine AllReadyH.cons rfl (fun K hK => ?_) AllReadyH.nil
      simp only [List.getElem_toArray, List.getElem_cons_zero, List.getElem_cons_succ]
      go_simp
      refine (ans_c back _).mono ?_
      rintro y y1 ⟨rfl, rfl⟩
      refine hK.out _ _ hHeld (fun hHeld => ?_)
      clear hK K
      try simp only [List.getElem_toArray, List.getElem_cons_zero, List.getElem_cons_succ, Act.put, List.setIfInBounds_toArray, List.set_cons_zero, List.set_cons_succ]
      refine wpAnyH_ready (rs := [10]) (by kernel_rfl) (by simp) ?_
      refine AllReadyH.cons rfl (fun K hK => ?_) AllReadyH.nil
      simp only [List.getElem_toArray, List.getElem_cons_zero, List.getElem_cons_succ]
      go_simp
      refine (ans_c red _).mono ?_
      rintro y y1 ⟨rfl, rfl⟩
      refine hK.out _ _ hHeld (fun hHeld => ?_)
      clear hK K
      try simp only [List.getElem_toArray, List.getElem_cons_zero, List.getElem_cons_succ, Act.put, List.setIfInBounds_toArray, List.set_cons_zero, List.set_cons_succ]
      refine wpAnyH_ready (rs := [14]) (by kernel_rfl) (by simp) ?_
      refine AllReadyH.cons rfl (fun K hK => ?_) AllReadyH.nil
      simp only [List.getElem_toArray, List.getElem_cons_zero, List.getElem_cons_succ]
      go_simp
      refine (HN3.out _).mono ?_
      rintro y y1 ⟨rfl, hq1⟩
      have hq1' := hq1.of_drew
      refine hK.out _ _ (hq1'.blk hHeld id) (fun hHeld => ?_)
      clear hK K
      try simp only [List.getElem_toArray, List.getElem_cons_zero, List.getElem_cons_succ, Act.put, List.setIfInBounds_toArray, List.set_cons_zero, List.set_cons_succ]
      refine wpAnyH_ready (rs := [18]) (by kernel_rfl) (by simp) ?_
      refine AllReadyH.cons rfl (fun K hK => ?_) AllReadyH.nil
      simp only [List.getElem_toArray, List.getElem_cons_zero, List.getElem_cons_succ]
      go_simp
      refine (HN4.out _).mono ?_
      rintro y y2 ⟨rfl, hq2⟩
      have hq12 := hq1'.trans hq2
      refine hK.out _ _ (hq2.blk hHeld id) (fun hHeld => ?_)
      clear hK K
      try simp only [List.getElem_toArray, List.getElem_cons_zero, List.getElem_cons_succ, Act.put, List.setIfInBounds_toArray, List.set_cons_zero, List.set_cons_succ]
      refine wpAnyH_ready (rs := [22]) (by kernel_rfl) (by simp) ?_
      refine AllReadyH.cons rfl (fun K hK => ?_) AllReadyH.nil
      simp only [List.getElem_toArray, List.getElem_cons_zero, List.getElem_cons_succ]
      go_simp
      refine (HN5.out _).mono ?_
      rintro y y3 ⟨rfl, hq3⟩
      have hq13 := hq12.trans hq3
      refine hK.out _ _ (hq3.blk hHeld id) (fun hHeld => ?_)
      clear hK K
      try simp only [List.getElem_toArray, List.getElem_cons_zero, List.getElem_cons_succ, Act.put, List.setIfInBounds_toArray, List.set_cons_zero, List.set_cons_succ]
      refine wpAnyH_ready (rs := [23]) (by kernel_rfl) (by simp) ?_
      refine AllReadyH.cons rfl (fun K hK => ?_) AllReadyH.nil
      simp only [List.getElem_toArray, List.getElem_cons_zero, List.getElem_cons_succ]
      go_simp
      refine hK.out _ _ (((Only.refl No y3).alloc _).blk hHeld id) (fun hHeld => ?_)
      clear hK K
      try simp only [List.getElem_toArray, List.getElem_cons_zero, List.getElem_cons_succ, Act.put, List.setIfInBounds_toArray, List.set_cons_zero, List.set_cons_succ]
      refine wpAnyH_ready (rs := [24]) (by kernel_rfl) (by simp) ?_
      refine AllReadyH.cons rfl (fun K hK => ?_) AllReadyH.nil
      simp only [List.getElem_toArray, List.getElem_cons_zero, List.getElem_cons_succ]
      go_simp
      refine (line2_c y3 [[114, 117, 108, 101, 115], ansW back, ansW red, printM room, printM budget, printM seed] (by simp) (by simp) HL1.out).mono ?_
      rintro y y4 ⟨rfl, hq4⟩
      have hq14 := hq13.trans hq4
      refine hK.out _ _ (hq14.blk hbR id) (fun hHeld => ?_)
      clear hK K
      try simp only [List.getElem_toArray, List.getElem_cons_zero, List.getElem_cons_succ, Act.put, List.setIfInBounds_toArray, List.set_cons_zero, List.set_cons_succ]
      refine wpAnyH_ready (rs := [25]) (by kernel_rfl) (by simp) ?_
      refine AllReadyH.cons rfl (fun K hK => ?_) AllReadyH.nil
      simp only [List.getElem_toArray, List.getElem_cons_zero, List.getElem_cons_succ]
      go_simp
      refine hK.out _ _ (((Only.refl No y4).alloc _).blk hHeld id) (fun hHeld => ?_)
      clear hK K
      try simp only [List.getElem_toArray, List.getElem_cons_zero, List.getElem_cons_succ, Act.put, List.setIfInBounds_toArray, List.set_cons_zero, List.set_cons_succ]
      have hBy := HB.out.only hq14 (fun _ _ h => h)
      have hz4' := hq14.size
      refine wpAnyH_ready (rs := [26]) (by kernel_rfl) (by simp) ?_
      refine AllReadyH.cons rfl (fun K hK => ?_) AllReadyH.nil
      refine step_append2 0 (by rfl) (.tmp 71) (.tmp 96) 75 (by rfl) Wa.heap.size 9 i0 (.string ⟨#[]⟩) 1 16 Try.underlying75 hi hz0 hz1 hz2 rfl (by decide) _ hBy 0 _ _ _ rfl (by rfl) [.string (toB (rlW ⟨n, prs, back, red, room, budget, seed⟩))] _ y4.heap.size rfl (by rfl) rfl (by simp [Value.oneCell']) (by unfold maxLen; omega) (by omega) (by omega) (by rfl) ?_
      intro g capn y5 hBn hOn hat
      refine hK.out _ _ (hOn.blk (hq14.blk hbR id) (fun e => by have h1 := HOwn.out _ e; have h2 := HA.out.2.1.lt; omega)) (fun hHeld => ?_)
      clear hK K
      try simp only [List.getElem_toArray, List.getElem_cons_zero, List.getElem_cons_succ, Act.put, List.setIfInBounds_toArray, List.set_cons_zero, List.set_cons_succ]
      refine wpAnyH_take (i := 27) (v := .slice (some ⟨g, 0, none⟩) (prs.length + 1 + 1) capn) rfl (by kernel_rfl) (by kernel_rfl) (by kernel_rfl) (fun _ _ _ h => h) (Or.inl ⟨by rfl, ?_⟩) hHeld ?_
      · intro W hSw
        go_simp
      try simp only [List.getElem_toArray, List.getElem_cons_zero, List.getElem_cons_succ, Act.put, List.setIfInBounds_toArray, List.set_cons_zero, List.set_cons_succ]
      refine wpAnyH_done (by kernel_rfl) ?_ _
      have hO5' : Only No Wa y5 := (HO.out.trans hq14).then hOn (fun k hk e => by have := HOwn.out _ e; omega)
      have hB5 : Bun y5 Wa.heap.size [(9, 1, .slice (some ⟨g, 0, none⟩) (prs.length + 1 + 1) capn, prs.length + 1 + 1, strsV (headsW ⟨n, prs, back, red, room, budget, seed⟩))] := by
        have h : strsV (headsW ⟨n, prs, back, red, room, budget, seed⟩) = strsV (hdW n :: prs.map jnW) ++ [.string (toB (rlW ⟨n, prs, back, red, room, budget, seed⟩))] := by
          unfold headsW
          rw [strsV_snoc]
        rw [h]
        simpa [List.set] using hBn
      clear hq1 hq1' hq2 hq12 hq3 hq13 hq4 hq14 hBy hOn hBn hbR hHeld
      have hLn : (headsW ⟨n, prs, back, red, room, budget, seed⟩).length = prs.length + 1 + 1 := by simp [headsW]
      have HLn := Lib.hid hLn
      have HEl : Hid ((es.map Prod.fst).length = es.length) := Lib.hid (by simp)
      clear hLn
      go_wp2_with fail
      go_loopg [9, 100] (es.length : Nat) (fun g v9 v100 wr => ∃ i : Nat, i + g = es.length ∧ v100 = .int .i64 i ∧ Bun wr Wa.heap.size [(9, 1, v9, prs.length + 2 + i, strsV (headsW ⟨n, prs, back, red, room, budget, seed⟩ ++ ((es.map Prod.fst).take i).map fun e => (lineM e).1))] ∧ evErr ((es.map Prod.fst).take i) = 0 ∧ Only No Wa wr)
      case atStart => exact ⟨0, by omega, rfl, by simpa using hB5, rfl, hO5'⟩
      case round =>
        obtain ⟨i, hig, rfl, hB, h0, hO⟩ := hrel
        obtain ⟨a8, c8, rfl⟩ := bun_form hB 0 rfl
        have hzr3 := hO.size
        have H0 := Lib.hid h0
        clear h0
        by_cases hlt : i < es.length
        · obtain ⟨a', cap', hq, -, hf, hsee⟩ := HLs.out.no (HA.out.2.2.trans hO)
          simp only [Value.slice.injEq] at hq
          obtain ⟨rfl, -, rfl⟩ := hq
          obtain ⟨b, off, rfl, hbl, hr⟩ := hf i hlt
          obtain ⟨hin, hdv⟩ := hsee _ (List.getElem_mem hlt)
          have HEi : Hid ((es.map Prod.fst)[i]'(by rw [HEl.out]; exact hlt) = es[i].1) := Lib.hid (by simp)
          have hi0 : (0 : Int) ≤ (i : Int) := by omega
          have hil : (i : Int) < (es.length : Int) := by omega
          have HB := Lib.hid hB
          have HO := Lib.hid hO
          generalize es[i] = x at *
          obtain ⟨e, dv⟩ := x
          simp only at hin hdv hr HEi
          have hone : dv.oneCell' = true := by obtain ⟨pa, pc, hq, -⟩ := hdv.form; rw [hq]; rfl
          have hbn := Blk.new wr zero25 55
          have hO6 : Only No wr ((wr.alloc (.cells zero25 55)).setRow wr.heap.size (evA e dv)) := only_setRow ((Only.refl _ _).alloc _) _ _ (fun hk => absurd hk (Nat.lt_irrefl _))
          have hb6 : Blk ((wr.alloc (.cells zero25 55)).setRow wr.heap.size (evA e dv)) wr.heap.size (evA e dv) 55 := blk_setRow hbn _
          have H6 := Lib.hid (And.intro hO6 (And.intro hb6 (hdv.no hO6)))
          have hok := hin.ok
          clear hB hO hsee hf hdv hO6 hb6
          go_upto_region 16 with (first
            | (refine wpList_load_mid rfl 55 (.tmp 102) rfl b (off + i * 25) rfl (evL e dv) _ hr Try.underlying55 rfl (info_evA hok dv) ?_)
            | (refine wpList_store_row rfl 55 (.tmp 13) (.tmp 103) rfl wr.heap.size (evA e dv) rfl rfl _ _ hbn (info_evA hok _) (by rw [evA_size hok]; rfl) (one_evA _ hone) ?_))
          generalize (wr.alloc (.cells zero25 55)).setRow wr.heap.size (evA e dv) = w6 at *
          obtain ⟨hO6, hb6, hd6⟩ := H6.out
          have HLine := Lib.hid (eline_c e hin dv w6 hd6)
          obtain ⟨t, er, hte⟩ : ∃ t er, (t, er) = lineM e := ⟨_, _, rfl⟩
          rw [← hte] at HLine
          have HTE := Lib.hid hte
          clear hd6 hte hr
          go_wp2_with (refine wpList_load_row rfl 55 (.tmp 13) rfl wr.heap.size rfl _ _ (0, 0) _ hb6 Try.underlying55 rfl (info_evA hok _) ?_)
          refine HLine.out.mono ?_
          rintro y w7 ⟨rfl, hO7⟩
          have hO7' : Only No wr w7 := hO6.trans hO7
          have HO7 := Lib.hid hO7'
          clear hO6 hO7 hb6 hbn
          by_cases her : er = 0
          · have hl2 : (lineM ((es.map Prod.fst)[i]'(by rw [HEl.out]; exact hlt))).2 = 0 := by rw [HEi.out, ← HTE.out]; exact her
            have HS : Hid (evErr ((es.map Prod.fst).take (i + 1)) = 0) := Lib.hid (evErr_snoc _ i (by rw [HEl.out]; exact hlt) H0.out hl2)
            have HTS : Hid (strsV (headsW ⟨n, prs, back, red, room, budget, seed⟩ ++ ((es.map Prod.fst).take (i + 1)).map fun e => (lineM e).1) = strsV (headsW ⟨n, prs, back, red, room, budget, seed⟩ ++ ((es.map Prod.fst).take i).map fun e => (lineM e).1) ++ [.string (toB t)]) := Lib.hid (by
              rw [List.take_succ_eq_append_getElem (by rw [HEl.out]; exact hlt), List.map_append, ← List.append_assoc, List.map_cons, List.map_nil, strsV_snoc, HEi.out, ← HTE.out])
            have hB7 := HB.out.only hO7' (fun _ _ h => h)
            have hz7 := hO7'.size
            have hown := fun (k : Nat) (hk : (Value.slice a8 (prs.length + 2 + i) c8).ownBlock = some k) => (HB.out.owns 0 _ rfl).lt hk
            have HOwn2 := Lib.hid hown
            clear hl2 hO7' hown
            subst her
            go_wp2_with (at_builtin; refine wpList_append2 rfl (.tmp 112) (.tmp 114) 75 rfl Wa.heap.size 9 i0 (.string ⟨#[]⟩) 1 16 Try.underlying75 hi hz0 hz1 hz2 rfl (by decide) _ hB7 0 _ _ _ rfl rfl [.string (toB t)] _ w7.heap.size rfl rfl rfl (by simp [Value.oneCell']) (by unfold maxLen; omega) (by omega) (by omega) ?_; intro g2 capn2 w8 hBn2 hOn2 hat2)
            go_roundg (es.length - (i + 1))
            case measure => omega
            case rel => exact ⟨i + 1, by omega, by go_num, by rw [HTS.out, ← Nat.add_assoc]; simpa [List.set] using hBn2, HS.out, (HO.out.trans HO7.out).then hOn2 (fun k hk e => by have := HOwn2.out _ e; omega)⟩
          · have HE : Hid (OUT = ([], er)) := Lib.hid (by
              have h2 : (lineM ((es.map Prod.fst)[i]'(by rw [HEl.out]; exact hlt))).2 = er := by rw [HEi.out, ← HTE.out]
              have h1 : evErr (es.map Prod.fst) = er := by
                rw [evErr_bad _ i (by rw [HEl.out]; exact hlt) H0.out (by rw [h2]; exact her), h2]
              rw [HM.out, h1, if_neg her])
            have hne : (er == 0) = false := beq_eq_false_iff_ne.2 her
            have hO7s : Only No Wa w7 := HO.out.trans hO7'
            clear her hO7'
            go_wp2_with fail
            go_ret2
            exact ⟨by rw [HE.out]; rfl, HA.out.2.2.trans hO7s⟩
        · have hil : i = es.length := by omega
          subst hil
          have hEv : evErr (es.map Prod.fst) = 0 := by
            have := H0.out
            rw [← HEl.out, List.take_length] at this
            exact this
          have HE : Hid (OUT = (fedW (linesW ⟨n, prs, back, red, room, budget, seed⟩ (es.map Prod.fst)), 0)) := Lib.hid (by rw [HM.out, if_pos hEv])
          have hfull : headsW ⟨n, prs, back, red, room, budget, seed⟩ ++ ((es.map Prod.fst).take es.length).map (fun e => (lineM e).1) = linesW ⟨n, prs, back, red, room, budget, seed⟩ (es.map Prod.fst) := by
            rw [← HEl.out, List.take_length]
            rfl
          rw [hfull] at hB
          have hll := (HLL b5).out
          have hlen : (linesW ⟨n, prs, back, red, room, budget, seed⟩ (es.map Prod.fst)).length = prs.length + 2 + es.length := by
            unfold linesW headsW
            simp
            omega
          obtain ⟨LL, hLL⟩ : ∃ LL, LL = linesW ⟨n, prs, back, red, room, budget, seed⟩ (es.map Prod.fst) := ⟨_, rfl⟩
          rw [← hLL] at HE hB hll hlen
          have hne : LL ≠ [] := by intro h; rw [h] at hlen; simp at hlen; omega
          have hjf := join_fed LL hne
          have hfl := fed_len 1000000 LL hll
          have hjl : (Lib.join LL [10]).length ≤ 140737488355328 := by
            have := congrArg List.length hjf
            rw [List.length_append, List.length_singleton] at this
            have h2 : LL.length * (1000000 + 1) ≤ 200 * 1000001 := Nat.mul_le_mul_right _ (by omega)
            omega
          obtain ⟨g, cap, hv, hcp, hg, hcell⟩ := row_cell (hB.owns 0 _ rfl) (by show 0 < prs.length + 2 + es.length; omega)
          simp only [Value.slice.injEq] at hv
          obtain ⟨rfl, -, rfl⟩ := hv
          have hcp' : prs.length + 2 + es.length ≤ c8 := hcp
          have HJ := Lib.hid (Try.strings_Join g 0 c8 (strsB LL) ⟨#[10]⟩ wr (fun j x hx => by
            rw [Nat.zero_add]
            refine hcell j _ ?_
            unfold strsV
            unfold strsB at hx
            rw [List.getElem?_map] at hx ⊢
            cases hq : LL[j]? with
            | none => rw [hq] at hx; simp at hx
            | some l => rw [hq] at hx; simp at hx; subst hx; rfl) hg (by simp [strsB]; omega) (by simp [strsB]; omega) (by rw [strsB_list]; exact hjl))
          rw [strsB_list, show (strsB LL).length = prs.length + 2 + es.length by simp [strsB, hlen]] at HJ
          have hs10 : (ByteArray.mk #[10]).data.toList = [10] := rfl
          rw [hs10] at HJ
          have HOe := Lib.hid hO
          have HJF := Lib.hid hjf
          have hill2 : ¬ (es.length : Int) < (es.length : Int) := by omega
          obtain ⟨J, hJ⟩ : ∃ J : ByteArray, J = ⟨(Lib.join LL [10]).toArray⟩ := ⟨_, rfl⟩
          rw [← hJ] at HJ
          have hJs : ¬ 9223372036854775807 < J.size + 1 := by rw [hJ]; show ¬ 9223372036854775807 < (Lib.join LL [10]).toArray.size + 1; rw [List.size_toArray]; omega
          have HJJ := Lib.hid hJ
          clear hcell hB hLL hll hlen hne hjf hfl hjl hs10 hO hEv hfull H0 hJ hg
          go_wp2_with fail
          refine HJ.out.mono ?_
          rintro y w9 ⟨rfl, hbel⟩
          have hO9 := Only.of_below hbel
          go_wp2_with fail
          go_ret2
          refine ⟨?_, HA.out.2.2.trans (HOe.out.trans hO9)⟩
          rw [HE.out]
          refine congrArg Ending.returned ?_
          refine congrArg (fun z => Value.tuple #[Value.string z, .int .i64 0]) ?_
          rw [HJJ.out]
          show _ = toB (fedW LL)
          rw [← HJF.out]
          refine ByteArray.ext (Array.ext' ?_)
          simp [toB, ByteArray.data_append]
end Go.Proofs.Ytlilhdkaaendlaa
