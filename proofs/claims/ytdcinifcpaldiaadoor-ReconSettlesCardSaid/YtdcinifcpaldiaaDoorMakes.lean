/- cell.Make. slices.Clone over cells. No statement is proved here. -/
import Derived.Test.YtdcinifcpaldiaaDoorPlc
import Derived.Test.YtdcinifcpaldiaaDoorTells0
import Derived.Test.YtdcinifcpaldiaaDoorApp

namespace Go.Proofs.YtdcinifcpaldiaaDoor
open Go.RowKit Go.Maps

theorem info_cell : (Tryd.prog.info? 81).map (fun i => (i.zero, i.size, i.bytes)) = some (some (.agg #[.int .i32 0, .int .u64 0, .int .u64 0]), 3, 24) := by kernel_rfl
theorem make_cells (n : Nat) (W : World) (hn : n ≤ 1000000) : (Instr.makeSlice 42 (.int .i64 (n : Int)) (.int .i64 (n : Int))).run Tryd.prog W =
    .ok (.slice (some ⟨W.heap.size, 0, none⟩) n n) (W.alloc (.cells (fl encC (zL n)).toArray 81)) := by
  obtain ⟨i0, hi, hz0, hz1, hz2⟩ := info_parts info_cell
  have := run_make W 42 81 i0 _ Tryd.underlying42 hi hz0 .i64 .i64 (n : Int) (n : Int) (by omega) (by omega) (by rw [hz2]; omega) (by omega)
  rw [hz1] at this
  have hm := fl_made (enc := encC) (z := zC) (zs := #[.int .i32 0, .int .u64 0, .int .u64 0]) rfl n (by decide)
  simp only [Int.toNat_natCast] at this
  unfold zL
  rw [← hm]
  exact this
theorem row_of_blk {α : Type} {enc : α → List Value} {k : Nat} (hk : ∀ x, (enc x).length = k) {w : World} {g base : Nat} {l : List α} {t : TypeId} (h : Blk w g (fl enc l).toArray t) (hb : base ≤ g) (hl : l.length ≤ 1000000) :
    w.ownsRow base t k (.slice (some ⟨g, 0, none⟩) l.length l.length) l.length (fl enc l) := by
  have e := fl_len hk l
  exact ⟨e, .inr ⟨g, _, _, rfl, hb, h, Nat.le_refl _, by unfold maxLen; omega, by simpa using e, by simp [← e]⟩⟩
theorem putsC_take (L : List Cell) (r : List Nat) (s : Int) {i : Nat} (h : i < r.length) : putsC L (r.take (i + 1)) s = putC (putsC L (r.take i) s) r[i] s := by
  rw [List.take_succ_eq_append_getElem h, putsC_snoc]
theorem Make_no (m : Int) (v : Value) (w : World) (h : ¬ May m) : Calls Tryd.prog 43 #[.int .i64 m, v] w fun e w' => e = .returned (.tuple #[.slice none 0 0, .int .i64 1]) ∧ w = w' := by
  have H := Lib.hid (may_no m w h)
  clear h
  go_enter Tryd.func43, Tryd.ntmps43
  go_wp2_with (go_at_call 72; refine H.out.mono ?_; rintro e w' ⟨rfl, rfl⟩)
  go_ret2
  exact ⟨rfl, rfl⟩
set_option maxRecDepth 100000 in
set_option maxHeartbeats 2000000 in
theorem Make_c (k : Nat) (v : Value) (l : List Nat) (w : World) (hk : 1 ≤ k) (hk2 : k ≤ 1365) (hR : Rd w v (u64s l)) (hl : l.length ≤ 1000000) (hx : ∀ x ∈ l, W64 x) :
    Calls Tryd.prog 43 #[.int .i64 ((3 * k : Nat) : Int), v] w fun e w' => ∃ u, e = .returned (.tuple #[u, .int .i64 0]) ∧ w'.ownsRow w.heap.size 81 3 u (3 * k) (fl encC (makeC (3 * k) l)) ∧ Only No w w' := by
  obtain ⟨a1, cap1, rfl, hcap1⟩ := hR.cases
  rw [u64s_len] at *
  have HM := Lib.hid (fun w => may_yes _ w (may_of hk hk2))
  obtain ⟨m, hm⟩ : ∃ m : Nat, m = 3 * k := ⟨_, rfl⟩
  have HP := Lib.hid (fun (T : List Cell) (x g base : Nat) (W : World) (h1 : T.length = m) (h2 : OkL T) (h3 : W64 x) (h4 : W.ownsRow base 81 3 (.slice (some ⟨g, 0, none⟩) m m) T.length (fl encC T)) => cput_c base _ k x 1 T W h4 (h1.trans hm) hk hk2 h2 h3)
  have hmm : m ≤ 4095 := by omega
  rw [← hm] at HM ⊢
  clear hm
  have HL := Lib.hid (show makeC m l = putsC (zL m) (rise l) 1 from rfl)
  have hmk := make_cells m
  have hmk' : ∀ W : World, (Instr.makeSlice 42 (.int .i64 (m : Int)) (.int .i64 (m : Int))).run Tryd.prog W = .ok (.slice (some ⟨W.heap.size, 0, none⟩) m m) (W.alloc (.cells (fl encC (zL m)).toArray 81)) := fun W => hmk W (by omega)
  clear hmk
  go_enter Tryd.func43, Tryd.ntmps43
  go_wp2_with (go_at_call 72; refine (HM.out _).mono ?_; rintro e w' ⟨rfl, rfl⟩)
  generalize hW1 : w.alloc (.cells (fl encC (zL m)).toArray 81) = w1
  have hO1 : Only No w w1 := by rw [← hW1]; exact (Only.refl _ _).alloc _
  have hB1 : Blk w1 w.heap.size (fl encC (zL m)).toArray 81 := by rw [← hW1]; exact Blk.new w _ _
  clear hmk' hW1
  go_wp2_with (go_at_call 83; refine (values_c _ _ _ _).mono ?_; rintro e w' ⟨rfl, rfl⟩)
  generalize hW0 : w1.alloc (.cells #[.slice a1 l.length cap1] 22) = W0
  have hO0 : Only No w1 W0 := by rw [← hW0]; exact (Only.refl _ _).alloc _
  have hb0 : Blk W0 w1.heap.size #[.slice a1 l.length cap1] 22 := by rw [← hW0]; exact Blk.new w1 _ _
  have hR0 := (hR.no hO1).no hO0
  have hSt : ∀ W, Only No W0 W → SeqStopsK Fence.wide 8 Tryd.prog 119 #[.pointer (some ⟨w1.heap.size, 0, none⟩)] (fun x : Nat => #[Value.int .u64 (x : Int)]) (Only (fun k => W0.heap.size ≤ k)) (fun ys => ys = l) (fun pre => pre <+: l) 1000000 W :=
    fun W h => values_stops 8 w1.heap.size 1000000 _ l (by omega) hl hl W0 hR0 hb0 W h.of_no
  have HC := Lib.hid (sorted_c 119 #[.pointer (some ⟨w1.heap.size, 0, none⟩)] _ _ 1000000 (by omega) (enters_of Tryd.func119 (by kernel_rfl) rfl) W0 hSt (fun ys h => by rw [h]; exact hl))
  clear hSt
  go_wp2_with (go_at_call 82; refine HC.out.mono ?_; rintro e w2 ⟨v, ys, rfl, hys, hrow, hO2⟩)
  have hys' : ys = l := hys
  have HY := Lib.hid hys'
  clear hys hys'
  have hyl : (nsort ys).length ≤ 1000000 := by rw [nsort_len, HY.out]; exact hl
  have hD := compactOwn_c _ v (nsort ys) w2 hrow hyl (nsort_sorted ys)
  rw [rise_nsort, HY.out] at hD
  have HD := Lib.hid hD
  clear hD
  go_wp2_with (go_at_call 81; refine HD.out.mono ?_; rintro e w3 ⟨v', rfl, hvb, hrow3, hO3⟩; obtain ⟨a3, cap3, rfl, hcap3⟩ := (Rd.of_row hrow3).cases)
  have hO23 : Only No W0 w3 := hO2.then hO3 (fun i hi e => by have := (hrow.lt i e).1; omega)
  have hO : Only No w w3 := (hO1.trans hO0).trans hO23
  have hB3 := (hO0.trans hO23).blk hB1 id
  have hRr := Rd.of_row hrow3
  have hnb : ∀ b, (Value.slice a3 (u64s (rise l)).length cap3).ownBlock = some b → b ≠ w.heap.size := fun b hb e => by have := (hrow3.lt b hb).1; have := hB1.lt; have := hO0.size; omega
  have HN := Lib.hid hnb
  clear hrow hrow3 hO3 hO23 hO2 hO1 hO0 hb0 hR0 hvb hyl hR hB1 hnb HD HC
  have hrl : (rise l).length ≤ 1000000 := Nat.le_trans (rise_len l) hl
  have hrx := w64_rise hx
  clear hx
  rw [u64s_len] at *
  generalize rise l = r at *
  have hrow0 : w3.ownsRow w.heap.size 81 3 (.slice (some ⟨w.heap.size, 0, none⟩) m m) m (fl encC (putsC (zL m) (r.take 0) 1)) := by
    have := row_of_blk encC_len hB3 (Nat.le_refl _) (by simpa using (by omega : m ≤ 1000000))
    simpa [putsC] using this
  go_wp2
  go_loopw [8, 19] (fun v8 v19 wr => ∃ i : Nat, i ≤ r.length ∧ v19 = .int .i64 i ∧ wr.ownsRow w.heap.size 81 3 (.slice (some ⟨w.heap.size, 0, none⟩) m m) m (fl encC (putsC (zL m) (r.take i) 1)) ∧ Only (· = w.heap.size) w3 wr) (fun _ v19 _ => r.length - (intOf v19).toNat)
  case atStart => exact ⟨0, by omega, rfl, hrow0, Only.refl _ _⟩
  case round =>
    obtain ⟨i, hi, rfl, hr, hOr⟩ := hrel
    by_cases hlt : i < r.length
    · obtain ⟨-, bb, off, rfl, hbl, hcell⟩ := hRr.at (by rw [u64s_len]; omega)
      have hne : bb ≠ w.heap.size := HN.out bb rfl
      have hc2 := (hOr.cell (p := ⟨bb, off + i, none⟩) hbl hne).trans (hcell i _ (u64s_get hlt))
      have hts := putsC_take (zL m) r 1 hlt
      have hxx := hrx r[i] (List.getElem_mem hlt)
      have hok := putsC_ok (s := 1) (fun x (hx : x ∈ r.take i) => hrx x (List.take_subset _ _ hx)) (zL_ok m)
      have hTl : (putsC (zL m) (r.take i) 1).length = m := by simp
      generalize r[i] = x at *
      generalize putsC (zL m) (r.take i) 1 = T at *
      have H := HP.out T x w.heap.size w.heap.size wr hTl hok hxx (by rw [hTl]; exact hr)
      rw [hTl] at H
      have H := Lib.hid H
      have HS := Lib.hid hts
      clear hts hok hxx hTl hcell hr
      go_wp2_with (go_at_call 84; refine H.out.mono ?_; rintro e w4 ⟨rfl, hr4, hO4⟩)
      go_roundw
      case rel => exact ⟨i + 1, by omega, by go_num, by rw [HS.out]; exact hr4, hOr.then hO4 (fun i _ e => by simpa [Value.ownBlock] using e.symm)⟩
      case measure => simp [intOf]; omega
    · have : i = r.length := by omega
      subst this
      rw [List.take_length] at hr
      go_wp2
      go_ret2
      exact ⟨_, rfl, by rw [HL.out]; exact hr, hO.then hOr (fun i hi e => by omega)⟩
end Go.Proofs.YtdcinifcpaldiaaDoor

namespace Go.Proofs.YtdcinifcpaldiaaDoor
open Go.RowKit Go.Maps Go.ChangeShapes Go.WideShapes Go.ChangeAt Go.Deep

theorem Bun.empty' (w : World) (base : Nat) (e : TypeId) (size : Nat) (hb : base ≤ w.heap.size) : Bun (w.alloc (.cells #[] e)) base [(e, size, .slice (some ⟨w.heap.size, 0, none⟩) 0 0, 0, [])] := by
  refine ⟨fun i r hr => ?_, fun i j r s b hr hs _ _ => ?_⟩
  · cases i with
    | zero =>
      simp at hr; subst hr
      exact ⟨by simp, .inr ⟨w.heap.size, 0, #[], rfl, hb, Blk.new w #[] e, Nat.le_refl _, by simp, by simp, by simp⟩⟩
    | succ i => simp at hr
  · have := (List.getElem?_eq_some_iff.1 hr).1
    have := (List.getElem?_eq_some_iff.1 hs).1
    simp at *
    omega
theorem encC_one {L : List Cell} : ∀ u ∈ fl encC L, Value.oneCell' u = true := by
  intro u hu
  unfold fl at hu
  obtain ⟨c, -, hc⟩ := List.mem_flatMap.1 hu
  simp [encC] at hc
  rcases hc with rfl | rfl | rfl <;> rfl
set_option maxRecDepth 100000 in
set_option maxHeartbeats 1000000 in
theorem Clone_c (v : Value) (A : List Cell) (w : World) (hR : RdN 3 w v A.length (fl encC A)) (hl : A.length ≤ 1000000) :
    Calls Tryd.prog 89 #[v] w fun e w' => ∃ u, e = .returned u ∧ w'.ownsRow w.heap.size 81 3 u A.length (fl encC A) ∧ Only No w w' := by
  obtain ⟨a, cap, rfl, hcap⟩ := hR.cases
  obtain ⟨i0, hinf, hz0, hz1, hz2⟩ := info_parts info_cell
  rcases a with _ | a
  · have h0 : A.length = 0 := by
      rcases Nat.eq_zero_or_pos A.length with h | h
      · exact h
      · obtain ⟨-, b, o, h, -⟩ := hR.at h; cases h
    obtain rfl : A = [] := List.length_eq_zero_iff.1 h0
    have hrow : w.ownsRow w.heap.size 81 3 (.slice none 0 0) ([] : List Cell).length (fl encC []) := ⟨rfl, .inl ⟨rfl, rfl⟩⟩
    have HR := Lib.hid hrow
    clear hrow
    go_enter Tryd.func89, Tryd.ntmps89
    have he : ∀ w : World, (binOp .eql 42 (.slice none 0 cap) (.slice none 0 0)).run Tryd.prog w = .ok (.bool true) w := fun _ => rfl
    go_wp2
    go_ret
    exact ⟨_, rfl, HR.out, Only.refl _ _⟩
  · have HR := Lib.hid hR
    have hll := fl_len encC_len A
    have HO := Lib.hid (encC_one (L := A))
    generalize fl encC A = xs at *
    clear hR
    go_enter Tryd.func89, Tryd.ntmps89
    have he : ∀ w : World, (binOp .eql 42 (.slice (some a) A.length cap) (.slice none 0 0)).run Tryd.prog w = .ok (.bool false) w := fun _ => rfl
    have hBE := Bun.empty' w w.heap.size 81 3 (Nat.le_refl _)
    have hOE := (Only.refl No w).alloc (.cells #[] 81)
    go_wp2_with (at_builtin; refine wpList_appendL rfl (.tmp 5) (.tmp 6) 42 rfl w.heap.size 81 i0 (.agg #[.int .i32 0, .int .u64 0, .int .u64 0]) 3 24 Tryd.underlying42 hinf hz0 hz1 hz2 rfl (by decide) _ hBE 0 _ 0 [] rfl rfl _ A.length xs rfl (HR.out.no hOE) HO.out (by unfold maxLen; omega) (by omega) (by simp) ?_; intro a2 c2 w2 hBA hOA _)
    go_ret
    exact ⟨_, rfl, by have := hBA.owns 0 _ rfl; simp only [Nat.zero_add, List.nil_append] at this; exact this, (hOE.of_no.trans hOA).mono (fun k hk hs => by omega)⟩
end Go.Proofs.YtdcinifcpaldiaaDoor
