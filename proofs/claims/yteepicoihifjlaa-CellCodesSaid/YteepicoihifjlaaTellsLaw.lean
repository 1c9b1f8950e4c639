/- Lists that differ in one number have tables that differ in its bucket alone: TableTells returns true for every input. -/
import Derived.Test.YteepicoihifjlaaTells0
import Derived.Test.YteepicoihifjlaaTellsP
import Derived.Test.YteepicoihifjlaaOpen
import Derived.Test.YteepicoihifjlaaCalm
namespace Go.Proofs.Yteepicoihifjlaa
open Go.ChangeShapes Go.WideShapes Go.ChangeAt Go.RowKit Go.Deep

theorem rdN_of_blk {α : Type} {enc : α → List Value} {k : Nat} (hk : ∀ x, (enc x).length = k) {w : World} {g : Nat} {l : List α} {t : TypeId} (h : Blk w g (fl enc l).toArray t) : RdN k w (.slice (some ⟨g, 0, none⟩) l.length l.length) l.length (fl enc l) :=
  ⟨_, _, rfl, Nat.le_refl _, fl_len hk l, fun _ => ⟨g, 0, rfl, h.lt, fun j u hu => by rw [Nat.zero_add]; exact h.cell j u (by simpa using hu)⟩⟩
/-- An empty slice that is not nil. -/
theorem Bun.empty (w : World) (base : Nat) (e : TypeId) (size : Nat) (hb : base ≤ w.heap.size) : Bun (w.alloc (.cells #[] e)) base [(e, size, .slice (some ⟨w.heap.size, 0, none⟩) 0 0, 0, [])] := by
  refine ⟨fun i r hr => ?_, fun i j r s b hr hs _ _ => ?_⟩
  · cases i with
    | zero =>
      simp at hr; subst hr
      exact ⟨by simp, .inr ⟨w.heap.size, 0, #[], rfl, hb, Blk.new w #[] e, Nat.le_refl _, by simp, by simp, by simp⟩⟩
    | succ i => simp at hr
  · have := (List.getElem?_eq_some_iff.1 hr).1
    have := (List.getElem?_eq_some_iff.1 hs).1
    simp at *
    omega
theorem ofL_len (l : List Nat) (b : Int) : (ofL l b).length ≤ 4096 := by
  unfold ofL
  rw [ofN_len]
  exact Nat.pow_le_pow_right (n := 2) (by omega) (cl_le 12 b)
set_option maxRecDepth 100000 in
set_option maxHeartbeats 2000000 in
theorem tableTells_few (v : Value) (l : List Nat) (x : Nat) (b : Int) (w : World) (hR : Rd w v (u64s l)) (hl : l.length ≤ 60) (hx : ∀ y ∈ l, W64 y) (hxx : W64 x) :
    Calls Try.prog 3 #[v, .int .u64 (x : Int), .int .i64 b] w fun e w' => e = .returned (.bool true) ∧ Only No w w' := by
  obtain ⟨i0, hinf, hz0, hz1, hz2⟩ := info_parts info_u64
  have HH := Lib.hid (Has_c v l x w hR (by omega))
  have HO1 := Lib.hid (Of_c v l b w hR (by omega) hx)
  have hRn := hR.sized
  rw [u64s_len] at hRn
  obtain ⟨a, cap, rfl, hcap⟩ := hR.cases
  rw [u64s_len] at *
  have hlz : ¬ (60 : Int) < (l.length : Int) := by omega
  by_cases hin : x ∈ l
  · have hi : isIn x l = true := decide_eq_true hin
    rw [hi] at HH
    clear hi hin HO1
    go_enter Try.func3, Try.ntmps3
    go_wp2_with (first | (go_at_call 13; refine HH.out.mono ?_; rintro e w' ⟨rfl, rfl⟩) | (go_at_call 14; refine (alive23_c _).mono ?_; rintro e w4 ⟨rfl, hO4⟩))
    go_ret
    exact ⟨rfl, hO4⟩
  · have hi : isIn x l = false := decide_eq_false hin
    rw [hi] at HH
    have hP := differ_one l x b hx hxx hin
    have HO2 := Lib.hid (fun (v2 : Value) (w2 : World) (hR2 : Rd w2 v2 (u64s (l ++ [x]))) => Of_c v2 (l ++ [x]) b w2 hR2 (by simp; omega) (by simpa using fun y hy => hy.elim (hx y) (fun e => e ▸ hxx)))
    have HD := Lib.hid (fun (v1 v2 : Value) (w3 : World) (h1 : RdN 2 w3 v1 _ _) (h2 : RdN 2 w3 v2 _ _) => Differ_c v1 v2 (ofL l b) (ofL (l ++ [x]) b) w3 h1 h2 (by have := ofL_len l b; omega) (by have := ofL_len (l ++ [x]) b; omega))
    rw [hP] at HD
    have hk30 := cl_le 12 b
    have HB1 := Lib.hid (rBits_c b)
    have HB2 := Lib.hid (fun w => rBucket_c x (cl 12 b : Nat) w hxx)
    generalize bkt x ((cl 12 b : Nat) : Int) = k at *
    generalize cl 12 b = n at *
    generalize ofL l b = T at *
    generalize ofL (l ++ [x]) b = U at *
    clear hi hin hP hx
    go_enter Try.func3, Try.ntmps3
    go_wp2_with (first
      | (go_at_call 13; refine HH.out.mono ?_; rintro e w' ⟨rfl, rfl⟩)
      | (go_at_call 16; ((with_reducible refine HO1.out.mono ?_); rintro e w1 ⟨g1, rfl, hg1, hb1, hO1⟩; have hBE := Bun.empty w1 w1.heap.size 23 1 (Nat.le_refl _); have hOE := (Only.refl No w1).alloc (.cells #[] 23); have hRE := (hRn.no hO1).no hOE; have hzE := hOE.size))
      | (at_builtin; refine wpList_appendL rfl (.tmp 20) (.tmp 21) 22 rfl w1.heap.size 23 i0 (.int .u64 0) 1 8 Try.underlying22 hinf hz0 hz1 hz2 rfl (by decide) _ hBE 0 _ 0 [] rfl rfl _ l.length (u64s l) rfl hRE (by intro u hu; obtain ⟨y, _, rfl⟩ := List.mem_map.1 hu; rfl) (by unfold maxLen; omega) (by omega) hzE ?_; intro a2 c2 w2 hBA0 hOA _; have hzA := hOA.size; have hBA : Bun w2 w1.heap.size [(23, 1, .slice a2 l.length c2, l.length, u64s l)] := by simpa [List.set] using hBA0)
      | (at_builtin; refine wpList_append1 rfl (.tmp 22) (.tmp 24) 22 rfl w1.heap.size 23 i0 (.int .u64 0) 1 8 Try.underlying22 hinf hz0 hz1 hz2 rfl (by decide) _ hBA 0 _ _ _ rfl rfl [.int .u64 (x : Int)] _ _ rfl rfl rfl (by simp [Value.oneCell']) (by unfold maxLen; omega) (by omega) (Nat.le_trans hzE hzA) ?_; intro g3 c3 w3 hBB hOB))
    have hRB : Rd w3 (.slice (some ⟨g3, 0, none⟩) (l.length + 1) c3) (u64s (l ++ [x])) := by
      have := Rd.of_row (hBB.owns 0 _ rfl)
      rw [← u64s_snoc] at this
      exact this
    have hO3 : Only No w1 w3 := ((hOE.of_no (S := fun k => w1.heap.size ≤ k)).trans (hOA.trans hOB)).mono (fun k hk hs => by omega)
    have HO4 := Lib.hid (HO2.out _ w3 hRB)
    clear HO2 hRB hBE hBA hBB hOE hOA hOB hRE hzE hzA hRn HH HO1 hBA0
    go_wp2_with (first
      | (go_at_call 16; refine HO4.out.mono ?_; rintro e w4 ⟨g4, rfl, hg4, hb4, hO4⟩)
      | (go_at_call 15; refine (HD.out _ _ _ (rdN_of_blk encB_len (hO4.blk (hO3.blk hb1 id) id)) (rdN_of_blk encB_len hb4)).mono ?_; rintro e w5 ⟨u5, rfl, hr5, hO5⟩; obtain ⟨g5, c5, rfl, -, hg5, k5⟩ := row_cell hr5 (by simp); have kk5 := k5 0 _ rfl; clear k5))
    have hOw := (hO1.trans hO3).trans (hO4.trans hO5)
    have hcm := calm_cell kk5
    have HC1 := Lib.hid (fun s : CalmW w5 => calls_calm_eq (s := s) (HB1.out s.at_))
    have HC2 := Lib.hid (fun s : CalmW w5 => calls_calm_eq (s := s) (HB2.out s.at_))
    have HC3 := Lib.hid (fun s : CalmW w5 => calls_calm (s := s) (alive23_c s.at_))
    clear hb1 hO1 hb4 hO4 hr5 hO5 kk5 HD HB1 HB2 HO4 hO3
    refine wp_region_calm (by kernel_rfl) (by kernel_rfl) ?_
    repeat (go_big_quiet_step (first | (go_at_call 18; exact HC1.out _) | (go_at_call 17; exact HC2.out _) | (go_at_call 14; exact HC3.out _)))
    refine wpQuiet_nil ?_
    rintro _ ⟨s, rfl⟩
    have hOs := hOw.trans s.only
    generalize s.at_ = ws at *
    go_wp2
    go_ret
    exact ⟨rfl, hOs⟩
set_option maxRecDepth 100000 in
theorem tableTells_many (a : Option Addr) (l : List Nat) (cap : Nat) (x : Nat) (b : Int) (w : World) (hl : 60 < l.length) :
    Calls Try.prog 3 #[.slice a l.length cap, .int .u64 (x : Int), .int .i64 b] w fun e w' => e = .returned (.bool true) ∧ Only No w w' := by
  have g1 : (60 : Int) < (l.length : Int) := by omega
  go_enter Try.func3, Try.ntmps3
  go_wp2_with (go_at_call 14; refine (alive23_c _).mono ?_; rintro e w4 ⟨rfl, hO4⟩)
  go_ret
  exact ⟨rfl, hO4⟩

set_option maxRecDepth 100000 in
theorem tableTells_lifted (os : Os) (started : os.Started) (H : Type) (enc : TypeId × Value → H) :
    ReturnsInHanded {} Try.checked os 3 .any (Rows.tableTellsSpec.pre6 enc Try.prog Try.f3 Rows.tableTellsRow.domain false) (Rows.tableTellsSpec.post enc Try.prog Try.f3 false true false false) := by
  refine returnsInHanded_of_change (C := Try.checked) tryOwn started (by kernel_rfl) Try.func3
    (ChangeSpec.witness6 (enc := enc) (C := Try.checked) false ⟨#[], #[.slice none 0 0, .int .u64 0, .int .i64 0], []⟩ 8 (by kernel_rfl) (by kernel_rfl) (by kernel_rfl) (by kernel_rfl)) ?_
  intro W base args ds gs before hval0 hW hcnd _
  have hval : ∀ (j : Nat) t v, Try.f3.params[j]? = some t → args[j]? = some v → Value.okWide Try.prog W .any base t v := hval0
  have hW' := hW
  have hlt := hW.lt
  obtain ⟨p, q, hA0, hV, rfl, hfz, hnd⟩ := hW
  have hA : DataW.TrodAll enc Try.prog W 0 (fun _ => true) true Try.f3.params.toList args.toList ds p := hA0
  rw [Try.params3] at hA hval
  obtain ⟨v0, vs0, d0, ds0, p0, q0, hargs, rfl, rfl, h0, r0⟩ := trodAll_cons hA
  obtain ⟨v1, vs1, d1, ds1, p1, q1, rfl, rfl, rfl, h1, r1⟩ := trodAll_cons r0
  obtain ⟨v2, vs2, d2, ds2, p2, q2, rfl, rfl, rfl, h2, r2⟩ := trodAll_cons r1
  obtain ⟨rfl, rfl, rfl⟩ := trodAll_nil r2
  obtain rfl : args = #[v0, v1, v2] := by cases args; simp_all
  have hfn : ∀ (gs : List (DataW H)), gs = [] → (Rows.tableTellsSpec.fn H ([d0, d1, d2] ++ gs)).results = [.lit (.bool true)] ∧ (Rows.tableTellsSpec.fn H ([d0, d1, d2] ++ gs)).args = [d0, d1, d2] := by
    rintro gs rfl
    exact ⟨rfl, rfl⟩
  have hvr : (Rows.tableTellsSpec.fn H ([d0, d1, d2] ++ gs)).vars = [] := by
    obtain ⟨rfl, rfl⟩ := trodVars_none hV
    rfl
  have fin := fun e W' he hb => law_ends (e := e) (W' := W') (f := Try.f3) (by kernel_rfl) rfl (by kernel_rfl) hfn hvr hW' he hb
  have w0 := hval 0 22 v0 rfl rfl
  have w1 := hval 1 23 v1 rfl rfl
  have w2 := hval 2 3 v2 rfl rfl
  clear hval hval0 hA hA0 hW' hfn hvr hcnd
  obtain ⟨a, l, cap, rfl, hR, hx⟩ := open_u64s w0 h0
  obtain ⟨x, rfl, -, -, wx⟩ := open_int Try.underlying23 w1 h1
  obtain ⟨b, rfl, -, -, -⟩ := open_int Try.underlying3 w2 h2
  have hxw := w64_of_wf wx
  obtain ⟨y, rfl⟩ : ∃ y : Nat, x = (y : Int) := ⟨x.toNat, by omega⟩
  by_cases hs : l.length ≤ 60
  · exact (tableTells_few _ l y b W hR hs hx (by simpa using hxw.2)).mono fun e W' ⟨he, hg⟩ => fin e W' he hg.below_no
  · exact (tableTells_many a l cap y b W (by omega)).mono fun e W' ⟨he, hg⟩ => fin e W' he hg.below_no
theorem tableTells_holds : Rows.TableTellsSaid :=
  OpenClaim.holds_of_wide 3 Try.f3 rfl rfl rfl rfl rfl rfl rfl ⟨rfl, rfl, rfl, rfl, rfl⟩ rfl rfl rfl rfl rfl (by kernel_rfl) Try.func3 (by kernel_rfl)
    (of_decide_eq_true (by kernel_rfl)) (by unfold Func.isWrapper; first | (rw [if_pos (by decide +kernel)]; kernel_rfl) | (rw [if_neg (by decide +kernel)]; exact ⟨rfl, rfl⟩))
    (fun os started H enc _ => tableTells_lifted os started H enc)
#print axioms tableTells_holds
end Go.Proofs.Yteepicoihifjlaa
