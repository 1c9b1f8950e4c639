/- The event of any line, the line of any event, and bytes as digits and back, are what the document says: ScriptEvents returns true for every input. -/
import Derived.Test.YtlilhdkaaendlaaOpenEv
namespace Go.Proofs.Ytlilhdkaaendlaa
open Go.ChangeShapes Go.WideShapes Go.ChangeAt Go.RowKit Go.Deep
open Go.ChangeMaps (open_string)

set_option maxRecDepth 100000 in
set_option maxHeartbeats 1600000 in
theorem events_great (s : ByteArray) (e : Ev) (he : e.Ok) (dv : Value) (w : World) (hd : Sees w dv (bys e.data)) (hg : 300 < s.size ∨ (s.size ≤ 300 ∧ 60 < e.data.length)) :
    Calls Try.prog 4 #[.string s, evV e dv] w fun x w' => x = .returned (.bool true) ∧ Only No w w' := by
  obtain ⟨da, dc, rfl, -⟩ := hd.form
  rw [bys_len] at hd ⊢
  have HAL := fun W : World => Lib.hid (alive44_c W)
  have hO : Only No w (w.alloc (.cells (evA e (.slice da e.data.length dc)) 54)) := (Only.refl _ _).alloc _
  have hb : Blk (w.alloc (.cells (evA e (.slice da e.data.length dc)) 54)) w.heap.size (evA e (.slice da e.data.length dc)) 54 := Blk.new _ _ _
  clear hd
  rcases hg with hg | ⟨hg, hg2⟩
  · have g1 : (300 : Int) < (s.size : Int) := by omega
    clear hg
    go_enter Try.func4, Try.ntmps4
    unfold evV
    go_upto_region 1 with fail
    have HO := Lib.hid hO
    generalize (w.alloc (.cells (evA e (.slice da e.data.length dc)) 54)) = w1 at *
    clear hO hb
    go_wp2_with fail
    refine (HAL _).out.mono ?_
    rintro x w2 ⟨rfl, hO2⟩
    go_wp2_with fail
    go_ret
    exact ⟨rfl, HO.out.trans hO2⟩
  · have g1 : ¬ (300 : Int) < (s.size : Int) := by omega
    have g2 : (60 : Int) < (e.data.length : Int) := by omega
    clear hg hg2
    go_enter Try.func4, Try.ntmps4
    unfold evV
    go_upto_region 1 with fail
    have HO := Lib.hid hO
    generalize (w.alloc (.cells (evA e (.slice da e.data.length dc)) 54)) = w1 at *
    have cD : w1.cell? ⟨w.heap.size, 24, none⟩ = some (.slice da e.data.length dc) := hb.cell 24 _ (evA_data he _)
    clear hO hb
    go_wp2_with fail
    refine (HAL _).out.mono ?_
    rintro x w2 ⟨rfl, hO2⟩
    go_wp2_with fail
    go_ret
    exact ⟨rfl, HO.out.trans hO2⟩

set_option maxRecDepth 100000 in
theorem scriptEvents_lifted (os : Os) (started : os.Started) (H : Type) (enc : TypeId × Value → H) :
    ReturnsInHanded {} Try.checked os 4 .any (Rows.scriptEventsSpec.pre6 enc Try.prog Try.f4 Rows.scriptEventsRow.domain false) (Rows.scriptEventsSpec.post enc Try.prog Try.f4 false true false false) := by
  refine returnsInHanded_of_change (C := Try.checked) tryOwn started (by kernel_rfl) Try.func4
    (ChangeSpec.witness6 (enc := enc) (C := Try.checked) false ⟨#[], #[.string ⟨#[]⟩, evV {} nilV], []⟩ 8 (by kernel_rfl) (by kernel_rfl) (by kernel_rfl) (by kernel_rfl)) ?_
  intro W base args ds gs before hval0 hW hcnd _
  have hval : ∀ (j : Nat) t v, Try.f4.params[j]? = some t → args[j]? = some v → Value.okWide Try.prog W .any base t v := hval0
  have hW' := hW
  have hlt := hW.lt
  obtain ⟨p, q, hA0, hV, rfl, hfz, hnd⟩ := hW
  have hA : DataW.TrodAll enc Try.prog W 0 (fun _ => true) true Try.f4.params.toList args.toList ds p := hA0
  rw [Try.params4] at hA hval
  obtain ⟨v0, vs0, d0, ds0, p0, q0, hargs, rfl, rfl, h0, r0⟩ := trodAll_cons hA
  obtain ⟨v1, vs1, d1, ds1, p1, q1, rfl, rfl, rfl, h1, r1⟩ := trodAll_cons r0
  obtain ⟨rfl, rfl, rfl⟩ := trodAll_nil r1
  obtain rfl : args = #[v0, v1] := by cases args; simp_all
  have hfn : ∀ (gs : List (DataW H)), gs = [] → (Rows.scriptEventsSpec.fn H ([d0, d1] ++ gs)).results = [.lit (.bool true)] ∧ (Rows.scriptEventsSpec.fn H ([d0, d1] ++ gs)).args = [d0, d1] := by
    rintro gs rfl
    exact ⟨rfl, rfl⟩
  have hvr : (Rows.scriptEventsSpec.fn H ([d0, d1] ++ gs)).vars = [] := by
    obtain ⟨rfl, rfl⟩ := trodVars_none hV
    rfl
  have fin := fun e W' he hb => law_ends (e := e) (W' := W') (f := Try.f4) (by kernel_rfl) rfl (by kernel_rfl) hfn hvr hW' he hb
  have w0 := hval 0 9 v0 rfl rfl
  have w1 := hval 1 54 v1 rfl rfl
  clear hval hval0 hA hA0 hW' hfn hvr hcnd
  obtain ⟨s, rfl, -, -, -⟩ := open_string Try.underlying9 w0 h0
  obtain ⟨e, dv, rfl, hsee, hin, hok⟩ := open_ev w1 h1
  by_cases hs : s.size ≤ 300
  · by_cases hd : e.data.length ≤ 60
    · exact (events_c s e (hin (by omega)) dv W hsee hs hd).mono fun x W' ⟨he, hg⟩ => fin x W' he hg.below_no
    · exact (events_great s e hok dv W hsee (.inr ⟨hs, by omega⟩)).mono fun x W' ⟨he, hg⟩ => fin x W' he hg.below_no
  · exact (events_great s e hok dv W hsee (.inl (by omega))).mono fun x W' ⟨he, hg⟩ => fin x W' he hg.below_no
theorem scriptEvents_holds : Rows.ScriptEventsSaid :=
  OpenClaim.holds_of_wide 4 Try.f4 rfl rfl rfl rfl rfl rfl rfl ⟨rfl, rfl, rfl, rfl, rfl⟩ rfl rfl rfl rfl rfl (by kernel_rfl) Try.func4 (by kernel_rfl)
    (of_decide_eq_true (by kernel_rfl)) (by unfold Func.isWrapper; first | (rw [if_pos (by decide +kernel)]; kernel_rfl) | (rw [if_neg (by decide +kernel)]; exact ⟨rfl, rfl⟩))
    (fun os started H enc _ => scriptEvents_lifted os started H enc)
#print axioms scriptEvents_holds
end Go.Proofs.Ytlilhdkaaendlaa
