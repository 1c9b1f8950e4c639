/- ScriptEvents: the walk of the law. No statement is proved here. -/
import Derived.Test.YtlilhdkaaendlaaAlive44
namespace Go.Proofs.Ytlilhdkaaendlaa
open Go.RowKit

theorem alikeB_refl (a : Ev) : alikeB a a = true := by simp [alikeB, opEq]
theorem yieldsIf_load_row {P : Program} {ops : Array Oper} {S : World → Prop} {op : Oper} {a : Act} (hw : Region.wanted op (yielded ops a.tmps) = true) (ty : TypeId) (x : Operand) (ho : op.op = .load ty x)
    (g : Nat) (hx : a.eval x = .pointer (some ⟨g, 0, none⟩)) (t : TypeId) (cs : Array Value) (d : TypeDesc) (hS : ∀ w, S w → Blk w g cs t)
    (hu : P.underlying ty = some d) (hd : (match d with | .struct _ | .array _ _ => true | _ => false) = true) (hi : (P.info? ty).map (·.size) = some cs.size) : YieldsIf P ops S op (.agg cs) a :=
  .inl ⟨hw, fun w hw' => by
    unfold execOp
    simp only [ho, hx, Instr.loadAt, Instr.sureAddr, Sem.run_bind, Sem.run_pure, Result.andThen_ok]
    rw [run_loadVar_row w g t ty cs (0, 0) d (hS w hw') hu hd hi]
    rfl⟩
set_option maxRecDepth 100000 in
set_option maxHeartbeats 6400000 in
theorem events_c (s : ByteArray) (e : Ev) (he : e.In) (dv : Value) (w : World) (hd : Sees w dv (bys e.data)) (hs : s.size ≤ 300) (hl : e.data.length ≤ 60) :
    Calls Try.prog 4 #[.string s, evV e dv] w fun x w' => x = .returned (.bool true) ∧ Only No w w' := by
  obtain ⟨da, dc, rfl, -⟩ := hd.form
  rw [bys_len] at hd ⊢
  have HE := fun W : World => Lib.hid (event_c s W (by omega))
  have HR := fun W : World => Lib.hid (revent_c s W (by omega))
  have hdl := evM_data s
  have hok2 := evM_ok (lineW s)
  obtain ⟨x, er, hev⟩ : ∃ x er, (x, er) = evM (lineW s) := ⟨_, _, rfl⟩
  rw [← hev] at HE HR hdl hok2
  simp only at hdl hok2
  have HL := fun (W : World) (h : Sees W (.slice da e.data.length dc) (bys e.data)) => Lib.hid (eline_c e he _ W h)
  have HRL := fun (W : World) (h : Sees W (.slice da e.data.length dc) (bys e.data)) => Lib.hid (reline_c e he _ W h)
  obtain ⟨ls, le, hle⟩ : ∃ l r, (l, r) = lineM e := ⟨_, _, rfl⟩
  rw [← hle] at HL HRL
  have HU := fun W : World => Lib.hid (unhex_c s W (by omega))
  have HRU := fun W : World => Lib.hid (runhex_c s W (by omega))
  have hul := unhex_len s.data.toList
  obtain ⟨ul, ue, hue⟩ : ∃ l r, (l, r) = unhexM s.data.toList := ⟨_, _, rfl⟩
  rw [← hue] at HU HRU hul
  simp only at hul
  have hsl : s.data.toList.length = s.size := rfl
  have HX := fun (W : World) (h : Sees W (.slice da e.data.length dc) (bys e.data)) => Lib.hid (hex_c _ e.data W h (by omega))
  have HRX := fun (W : World) (h : Sees W (.slice da e.data.length dc) (bys e.data)) => Lib.hid (rhex_c _ e.data W h (by omega))
  have HS := fun (W : World) (d1 d2 : Value) (h1 : Sees W d1 (bys x.data)) (h2 : Sees W d2 (bys x.data)) => (show Calls Try.prog 12 #[.agg (evA x d1), .agg (evA x d2)] W fun r w' => r = .returned (.bool true) ∧ Only No W w' from by
    have h := rsame_c x x hok2 hok2 d1 d2 W h1 h2 (by omega)
    rw [alikeB_refl] at h
    exact h)
  have HS8 := fun (W : World) (d1 d2 : Value) (h1 : Sees W d1 (bys ul)) (h2 : Sees W d2 (bys ul)) => (show Calls Try.prog 19 #[d1, d2] W fun r w' => r = .returned (.bool true) ∧ Only No W w' from by
    have h := same8_c d1 d2 ul ul W h1 h2 (by omega)
    rw [decide_eq_true rfl] at h
    exact h.mono fun r w' ⟨h1, nd, h2⟩ => ⟨h1, by rw [← h2]; exact (Only.refl _ _).drewN nd⟩)
  have HAL := fun W : World => alive44_c W
  have hO : Only No w (w.alloc (.cells (evA e (.slice da e.data.length dc)) 54)) := (Only.refl _ _).alloc _
  have hb : Blk (w.alloc (.cells (evA e (.slice da e.data.length dc)) 54)) w.heap.size (evA e (.slice da e.data.length dc)) 54 := Blk.new _ _ _
  have HD := Lib.hid (hd.no hO)
  have g1 : ¬ (300 : Int) < (s.size : Int) := by omega
  have g2 : ¬ (60 : Int) < (e.data.length : Int) := by omega
  clear hev hle hue hul hsl hdl hd hl hs
  go_enter Try.func4, Try.ntmps4
  unfold evV
  go_upto_region 1 with fail
  have HO := Lib.hid hO
  generalize (w.alloc (.cells (evA e (.slice da e.data.length dc)) 54)) = w1 at *
  have cD : w1.cell? ⟨w.heap.size, 24, none⟩ = some (.slice da e.data.length dc) := hb.cell 24 _ (evA_data he.ok _)
  have HB := Lib.hid hb
  clear hO hb
  go_wp2_with fail
  refine (HE _).out.mono ?_
  rintro r w2 ⟨d1, rfl, hd1, -, hO2⟩
  simp only at hd1
  have hone1 : d1.oneCell' = true := by obtain ⟨pa, pc, hq, -⟩ := hd1.form; rw [hq]; rfl
  have hbn1 := Lib.hid (Blk.new w2 zero25 55)
  have hO3 : Only No w2 ((w2.alloc (.cells zero25 55)).setRow w2.heap.size (evA x d1)) := only_setRow ((Only.refl _ _).alloc _) _ _ (fun hk => absurd hk (Nat.lt_irrefl _))
  have hb5 : Blk ((w2.alloc (.cells zero25 55)).setRow w2.heap.size (evA x d1)) w2.heap.size (evA x d1) 55 := blk_setRow hbn1.out _
  have H5 := Lib.hid (And.intro hb5 (And.intro (hO2.trans hO3) (hd1.no hO3)))
  clear hb5 hO2 hO3 hd1 cD
  go_wp2_with (refine wpList_store_row rfl 55 (.tmp 5) (.tmp 30) rfl w2.heap.size (evA x d1) rfl rfl _ _ hbn1.out (info_evA hok2 _) (by rw [evA_size hok2]; rfl) (one_evA _ hone1) ?_)
  generalize (w2.alloc (.cells zero25 55)).setRow w2.heap.size (evA x d1) = w3 at *
  refine (HR _).out.mono ?_
  rintro r w4 ⟨d2, rfl, hd2, -, hO4⟩
  simp only at hd2
  have hone2 : d2.oneCell' = true := by obtain ⟨pa, pc, hq, -⟩ := hd2.form; rw [hq]; rfl
  have hbn2 := Lib.hid (Blk.new w4 zero25 54)
  have hO5 : Only No w4 ((w4.alloc (.cells zero25 54)).setRow w4.heap.size (evA x d2)) := only_setRow ((Only.refl _ _).alloc _) _ _ (fun hk => absurd hk (Nat.lt_irrefl _))
  have hb7 : Blk ((w4.alloc (.cells zero25 54)).setRow w4.heap.size (evA x d2)) w4.heap.size (evA x d2) 54 := blk_setRow hbn2.out _
  have H7 := Lib.hid (And.intro hb7 (And.intro (hO4.trans hO5) (hd2.no hO5)))
  have H0 := Lib.hid ((H5.out.2.1.trans (hO4.trans hO5)).blk HB.out id)
  have HD5 := Lib.hid (HD.out.no (H5.out.2.1.trans (hO4.trans hO5)))
  clear hb7 hO4 hO5 hd2
  go_wp2_with (first
    | (refine wpList_store_row rfl 54 (.tmp 7) (.tmp 35) rfl w4.heap.size (evA x d2) rfl rfl _ _ hbn2.out (info_revA hok2 _) (by rw [evA_size hok2]; rfl) (one_evA _ hone2) ?_)
    | (refine wpList_load_row rfl 54 (.tmp 3) rfl w.heap.size rfl _ _ (0, 0) _ H0.out Try.underlying54 rfl (info_revA he.ok _) ?_))
  generalize (w4.alloc (.cells zero25 54)).setRow w4.heap.size (evA x d2) = w5 at *
  refine (HL _ HD5.out).out.mono ?_
  rintro r w6 ⟨rfl, hO6⟩
  have H6 := Lib.hid (hO6.blk H0.out id)
  go_wp2_with (refine wpList_load_row rfl 54 (.tmp 3) rfl w.heap.size rfl _ _ (0, 0) _ H6.out Try.underlying54 rfl (info_revA he.ok _) ?_)
  refine (HRL _ (HD5.out.no hO6)).out.mono ?_
  rintro r w7 ⟨rfl, hO7⟩
  go_wp2_with fail
  refine (HU _).out.mono ?_
  rintro r w8 ⟨v1, rfl, hv1, -, hO8⟩
  go_wp2_with fail
  refine (HRU _).out.mono ?_
  rintro r w9 ⟨v2, rfl, hv2, -, hO9⟩
  have hO59 : Only No w5 w9 := (hO6.trans hO7).trans (hO8.trans hO9)
  have HB5 := Lib.hid ((H7.out.2.1.trans hO59).blk H5.out.1 id)
  have HB7 := Lib.hid (hO59.blk H7.out.1 id)
  have HB0 := Lib.hid (hO59.blk H0.out id)
  have HSd1 := Lib.hid (H5.out.2.2.no (H7.out.2.1.trans hO59))
  have HSd2 := Lib.hid (H7.out.2.2.no hO59)
  have HSdv := Lib.hid (HD5.out.no hO59)
  have HSv1 := Lib.hid (hv1.no hO9)
  have HSv2 := Lib.hid hv2
  have HFin := Lib.hid (HO.out.trans ((H5.out.2.1.trans H7.out.2.1).trans hO59))
  clear hO6 hO7 hO8 hO9 hO59 hv1 hv2
  go_upto_region 9 with fail
  have HK := Lib.hid (fun (w' : World) (h : Only No w9 w') => (show Only No w9 w' ∧ w'.cell? ⟨w.heap.size, 24, none⟩ = some (.slice da e.data.length dc) from ⟨h, (h.blk HB0.out id).cell 24 _ (evA_data he.ok _)⟩))
  refine wp_region_held_drew (S := fun w' => Only No w9 w' ∧ w'.cell? ⟨w.heap.size, 24, none⟩ = some (.slice da e.data.length dc)) (by kernel_rfl) (HK.out _ (Only.refl _ _).drew) (fun hHeld => ?_)
  refine wpAnyH_take (i := 0) (v := .agg (evA x d1)) rfl (by kernel_rfl) (by kernel_rfl) (by kernel_rfl) (fun _ _ _ h => h) (yieldsIf_load_row (by rfl) 55 (.tmp 5) rfl w2.heap.size rfl 55 (evA x d1) _ (fun w' h => h.1.blk HB5.out id) Try.underlying55 rfl (info_evA hok2 _)) hHeld ?_
  simp only [List.getElem_toArray, List.getElem_cons_zero, Act.put, List.setIfInBounds_toArray, List.set_cons_zero, List.set_cons_succ]
  refine wpAnyH_take (i := 1) (v := .agg (evA x d2)) rfl (by kernel_rfl) (by kernel_rfl) (by kernel_rfl) (fun _ _ _ h => h) (yieldsIf_load_row (by rfl) 54 (.tmp 7) rfl w4.heap.size rfl 54 (evA x d2) _ (fun w' h => h.1.blk HB7.out id) Try.underlying54 rfl (info_revA hok2 _)) hHeld ?_
  simp only [List.getElem_toArray, List.getElem_cons_zero, List.getElem_cons_succ, Act.put, List.setIfInBounds_toArray, List.set_cons_zero, List.set_cons_succ]
  refine wpAnyH_ready (rs := [2]) (by kernel_rfl) (by simp) ?_
  refine AllReadyH.cons rfl (fun K hK => ?_) AllReadyH.nil
  simp only [List.getElem_toArray, List.getElem_cons_zero, List.getElem_cons_succ]
  go_simp
  refine (HS _ _ _ (HSd1.out.no hHeld.1) (HSd2.out.no hHeld.1)).mono ?_
  rintro r y1 ⟨rfl, hOk⟩
  have hO1 := hHeld.1.trans hOk
  refine hK.out _ _ (HK.out _ hO1) (fun hHeld => ?_)
  clear hK K hOk
  try simp only [List.getElem_toArray, List.getElem_cons_zero, List.getElem_cons_succ, Act.put, List.setIfInBounds_toArray, List.set_cons_zero, List.set_cons_succ]
  refine wpAnyH_take (i := 3) (v := .bool true) rfl (by kernel_rfl) (by kernel_rfl) (by kernel_rfl) (fun _ _ _ h => h) (Or.inl ⟨by rfl, ?_⟩) hHeld ?_
  · intro W hSw
    obtain ⟨-, hSw⟩ := hSw
    go_simp
  simp only [List.getElem_toArray, List.getElem_cons_zero, List.getElem_cons_succ, Act.put, List.setIfInBounds_toArray, List.set_cons_zero, List.set_cons_succ]
  refine wpAnyH_take (i := 4) (v := .int .i64 er) rfl (by kernel_rfl) (by kernel_rfl) (by kernel_rfl) (fun _ _ _ h => h) (Or.inl ⟨by rfl, ?_⟩) hHeld ?_
  · intro W hSw
    obtain ⟨-, hSw⟩ := hSw
    go_simp
  simp only [List.getElem_toArray, List.getElem_cons_zero, List.getElem_cons_succ, Act.put, List.setIfInBounds_toArray, List.set_cons_zero, List.set_cons_succ]
  refine wpAnyH_take (i := 5) (v := .int .i64 er) rfl (by kernel_rfl) (by kernel_rfl) (by kernel_rfl) (fun _ _ _ h => h) (Or.inl ⟨by rfl, ?_⟩) hHeld ?_
  · intro W hSw
    obtain ⟨-, hSw⟩ := hSw
    go_simp
  simp only [List.getElem_toArray, List.getElem_cons_zero, List.getElem_cons_succ, Act.put, List.setIfInBounds_toArray, List.set_cons_zero, List.set_cons_succ]
  refine wpAnyH_take (i := 6) (v := .bool true) rfl (by kernel_rfl) (by kernel_rfl) (by kernel_rfl) (fun _ _ _ h => h) (Or.inl ⟨by rfl, ?_⟩) hHeld ?_
  · intro W hSw
    obtain ⟨-, hSw⟩ := hSw
    go_simp
  simp only [List.getElem_toArray, List.getElem_cons_zero, List.getElem_cons_succ, Act.put, List.setIfInBounds_toArray, List.set_cons_zero, List.set_cons_succ]
  refine wpAnyH_take (i := 7) (v := .bool true) rfl (by kernel_rfl) (by kernel_rfl) (by kernel_rfl) (fun _ _ _ h => h) (Or.inl ⟨by rfl, ?_⟩) hHeld ?_
  · intro W hSw
    obtain ⟨-, hSw⟩ := hSw
    go_simp
  simp only [List.getElem_toArray, List.getElem_cons_zero, List.getElem_cons_succ, Act.put, List.setIfInBounds_toArray, List.set_cons_zero, List.set_cons_succ]
  refine wpAnyH_take (i := 8) (v := .bool true) rfl (by kernel_rfl) (by kernel_rfl) (by kernel_rfl) (fun _ _ _ h => h) (Or.inl ⟨by rfl, ?_⟩) hHeld ?_
  · intro W hSw
    obtain ⟨-, hSw⟩ := hSw
    go_simp
  simp only [List.getElem_toArray, List.getElem_cons_zero, List.getElem_cons_succ, Act.put, List.setIfInBounds_toArray, List.set_cons_zero, List.set_cons_succ]
  refine wpAnyH_take (i := 9) (v := .string ⟨ls.toArray⟩) rfl (by kernel_rfl) (by kernel_rfl) (by kernel_rfl) (fun _ _ _ h => h) (Or.inl ⟨by rfl, ?_⟩) hHeld ?_
  · intro W hSw
    obtain ⟨-, hSw⟩ := hSw
    go_simp
  simp only [List.getElem_toArray, List.getElem_cons_zero, List.getElem_cons_succ, Act.put, List.setIfInBounds_toArray, List.set_cons_zero, List.set_cons_succ]
  refine wpAnyH_take (i := 10) (v := .string ⟨ls.toArray⟩) rfl (by kernel_rfl) (by kernel_rfl) (by kernel_rfl) (fun _ _ _ h => h) (Or.inl ⟨by rfl, ?_⟩) hHeld ?_
  · intro W hSw
    obtain ⟨-, hSw⟩ := hSw
    go_simp
  simp only [List.getElem_toArray, List.getElem_cons_zero, List.getElem_cons_succ, Act.put, List.setIfInBounds_toArray, List.set_cons_zero, List.set_cons_succ]
  refine wpAnyH_take (i := 11) (v := .bool true) rfl (by kernel_rfl) (by kernel_rfl) (by kernel_rfl) (fun _ _ _ h => h) (Or.inl ⟨by rfl, ?_⟩) hHeld ?_
  · intro W hSw
    obtain ⟨-, hSw⟩ := hSw
    go_simp
  simp only [List.getElem_toArray, List.getElem_cons_zero, List.getElem_cons_succ, Act.put, List.setIfInBounds_toArray, List.set_cons_zero, List.set_cons_succ]
  refine wpAnyH_take (i := 12) (v := .bool true) rfl (by kernel_rfl) (by kernel_rfl) (by kernel_rfl) (fun _ _ _ h => h) (Or.inl ⟨by rfl, ?_⟩) hHeld ?_
  · intro W hSw
    obtain ⟨-, hSw⟩ := hSw
    go_simp
  simp only [List.getElem_toArray, List.getElem_cons_zero, List.getElem_cons_succ, Act.put, List.setIfInBounds_toArray, List.set_cons_zero, List.set_cons_succ]
  refine wpAnyH_take (i := 13) (v := .bool true) rfl (by kernel_rfl) (by kernel_rfl) (by kernel_rfl) (fun _ _ _ h => h) (Or.inl ⟨by rfl, ?_⟩) hHeld ?_
  · intro W hSw
    obtain ⟨-, hSw⟩ := hSw
    go_simp
  simp only [List.getElem_toArray, List.getElem_cons_zero, List.getElem_cons_succ, Act.put, List.setIfInBounds_toArray, List.set_cons_zero, List.set_cons_succ]
  refine wpAnyH_take (i := 14) (v := .int .i64 le) rfl (by kernel_rfl) (by kernel_rfl) (by kernel_rfl) (fun _ _ _ h => h) (Or.inl ⟨by rfl, ?_⟩) hHeld ?_
  · intro W hSw
    obtain ⟨-, hSw⟩ := hSw
    go_simp
  simp only [List.getElem_toArray, List.getElem_cons_zero, List.getElem_cons_succ, Act.put, List.setIfInBounds_toArray, List.set_cons_zero, List.set_cons_succ]
  refine wpAnyH_take (i := 15) (v := .int .i64 le) rfl (by kernel_rfl) (by kernel_rfl) (by kernel_rfl) (fun _ _ _ h => h) (Or.inl ⟨by rfl, ?_⟩) hHeld ?_
  · intro W hSw
    obtain ⟨-, hSw⟩ := hSw
    go_simp
  simp only [List.getElem_toArray, List.getElem_cons_zero, List.getElem_cons_succ, Act.put, List.setIfInBounds_toArray, List.set_cons_zero, List.set_cons_succ]
  refine wpAnyH_take (i := 16) (v := .bool true) rfl (by kernel_rfl) (by kernel_rfl) (by kernel_rfl) (fun _ _ _ h => h) (Or.inl ⟨by rfl, ?_⟩) hHeld ?_
  · intro W hSw
    obtain ⟨-, hSw⟩ := hSw
    go_simp
  simp only [List.getElem_toArray, List.getElem_cons_zero, List.getElem_cons_succ, Act.put, List.setIfInBounds_toArray, List.set_cons_zero, List.set_cons_succ]
  refine wpAnyH_take (i := 17) (v := .bool true) rfl (by kernel_rfl) (by kernel_rfl) (by kernel_rfl) (fun _ _ _ h => h) (Or.inl ⟨by rfl, ?_⟩) hHeld ?_
  · intro W hSw
    obtain ⟨-, hSw⟩ := hSw
    go_simp
  simp only [List.getElem_toArray, List.getElem_cons_zero, List.getElem_cons_succ, Act.put, List.setIfInBounds_toArray, List.set_cons_zero, List.set_cons_succ]
  refine wpAnyH_take (i := 18) (v := .bool true) rfl (by kernel_rfl) (by kernel_rfl) (by kernel_rfl) (fun _ _ _ h => h) (Or.inl ⟨by rfl, ?_⟩) hHeld ?_
  · intro W hSw
    obtain ⟨-, hSw⟩ := hSw
    go_simp
  simp only [List.getElem_toArray, List.getElem_cons_zero, List.getElem_cons_succ, Act.put, List.setIfInBounds_toArray, List.set_cons_zero, List.set_cons_succ]
  refine wpAnyH_take (i := 19) (v := v1) rfl (by kernel_rfl) (by kernel_rfl) (by kernel_rfl) (fun _ _ _ h => h) (Or.inl ⟨by rfl, ?_⟩) hHeld ?_
  · intro W hSw
    obtain ⟨-, hSw⟩ := hSw
    go_simp
  simp only [List.getElem_toArray, List.getElem_cons_zero, List.getElem_cons_succ, Act.put, List.setIfInBounds_toArray, List.set_cons_zero, List.set_cons_succ]
  refine wpAnyH_take (i := 20) (v := v2) rfl (by kernel_rfl) (by kernel_rfl) (by kernel_rfl) (fun _ _ _ h => h) (Or.inl ⟨by rfl, ?_⟩) hHeld ?_
  · intro W hSw
    obtain ⟨-, hSw⟩ := hSw
    go_simp
  simp only [List.getElem_toArray, List.getElem_cons_zero, List.getElem_cons_succ, Act.put, List.setIfInBounds_toArray, List.set_cons_zero, List.set_cons_succ]
  refine wpAnyH_ready (rs := [21]) (by kernel_rfl) (by simp) ?_
  refine AllReadyH.cons rfl (fun K hK => ?_) AllReadyH.nil
  simp only [List.getElem_toArray, List.getElem_cons_zero, List.getElem_cons_succ]
  go_simp
  refine (HS8 _ _ _ (HSv1.out.no hHeld.1) (HSv2.out.no hHeld.1)).mono ?_
  rintro r y2 ⟨rfl, hOk⟩
  have hO2 := hHeld.1.trans hOk
  refine hK.out _ _ (HK.out _ hO2) (fun hHeld => ?_)
  clear hK K hOk
  try simp only [List.getElem_toArray, List.getElem_cons_zero, List.getElem_cons_succ, Act.put, List.setIfInBounds_toArray, List.set_cons_zero, List.set_cons_succ]
  refine wpAnyH_take (i := 22) (v := .bool true) rfl (by kernel_rfl) (by kernel_rfl) (by kernel_rfl) (fun _ _ _ h => h) (Or.inl ⟨by rfl, ?_⟩) hHeld ?_
  · intro W hSw
    obtain ⟨-, hSw⟩ := hSw
    go_simp
  simp only [List.getElem_toArray, List.getElem_cons_zero, List.getElem_cons_succ, Act.put, List.setIfInBounds_toArray, List.set_cons_zero, List.set_cons_succ]
  refine wpAnyH_take (i := 23) (v := .bool true) rfl (by kernel_rfl) (by kernel_rfl) (by kernel_rfl) (fun _ _ _ h => h) (Or.inl ⟨by rfl, ?_⟩) hHeld ?_
  · intro W hSw
    obtain ⟨-, hSw⟩ := hSw
    go_simp
  simp only [List.getElem_toArray, List.getElem_cons_zero, List.getElem_cons_succ, Act.put, List.setIfInBounds_toArray, List.set_cons_zero, List.set_cons_succ]
  refine wpAnyH_take (i := 24) (v := .int .i64 ue) rfl (by kernel_rfl) (by kernel_rfl) (by kernel_rfl) (fun _ _ _ h => h) (Or.inl ⟨by rfl, ?_⟩) hHeld ?_
  · intro W hSw
    obtain ⟨-, hSw⟩ := hSw
    go_simp
  simp only [List.getElem_toArray, List.getElem_cons_zero, List.getElem_cons_succ, Act.put, List.setIfInBounds_toArray, List.set_cons_zero, List.set_cons_succ]
  refine wpAnyH_take (i := 25) (v := .int .i64 ue) rfl (by kernel_rfl) (by kernel_rfl) (by kernel_rfl) (fun _ _ _ h => h) (Or.inl ⟨by rfl, ?_⟩) hHeld ?_
  · intro W hSw
    obtain ⟨-, hSw⟩ := hSw
    go_simp
  simp only [List.getElem_toArray, List.getElem_cons_zero, List.getElem_cons_succ, Act.put, List.setIfInBounds_toArray, List.set_cons_zero, List.set_cons_succ]
  refine wpAnyH_take (i := 26) (v := .bool true) rfl (by kernel_rfl) (by kernel_rfl) (by kernel_rfl) (fun _ _ _ h => h) (Or.inl ⟨by rfl, ?_⟩) hHeld ?_
  · intro W hSw
    obtain ⟨-, hSw⟩ := hSw
    go_simp
  simp only [List.getElem_toArray, List.getElem_cons_zero, List.getElem_cons_succ, Act.put, List.setIfInBounds_toArray, List.set_cons_zero, List.set_cons_succ]
  refine wpAnyH_take (i := 27) (v := .bool true) rfl (by kernel_rfl) (by kernel_rfl) (by kernel_rfl) (fun _ _ _ h => h) (Or.inl ⟨by rfl, ?_⟩) hHeld ?_
  · intro W hSw
    obtain ⟨-, hSw⟩ := hSw
    go_simp
  simp only [List.getElem_toArray, List.getElem_cons_zero, List.getElem_cons_succ, Act.put, List.setIfInBounds_toArray, List.set_cons_zero, List.set_cons_succ]
  refine wpAnyH_take (i := 28) (v := .bool true) rfl (by kernel_rfl) (by kernel_rfl) (by kernel_rfl) (fun _ _ _ h => h) (Or.inl ⟨by rfl, ?_⟩) hHeld ?_
  · intro W hSw
    obtain ⟨-, hSw⟩ := hSw
    go_simp
  simp only [List.getElem_toArray, List.getElem_cons_zero, List.getElem_cons_succ, Act.put, List.setIfInBounds_toArray, List.set_cons_zero, List.set_cons_succ]
  refine wpAnyH_take (i := 29) (v := .pointer (some ⟨w.heap.size, 24, none⟩)) rfl (by kernel_rfl) (by kernel_rfl) (by kernel_rfl) (fun _ _ _ h => h) (Or.inl ⟨by rfl, ?_⟩) hHeld ?_
  · intro W hSw
    obtain ⟨-, hSw⟩ := hSw
    go_simp
  simp only [List.getElem_toArray, List.getElem_cons_zero, List.getElem_cons_succ, Act.put, List.setIfInBounds_toArray, List.set_cons_zero, List.set_cons_succ]
  refine wpAnyH_take (i := 30) (v := .slice da e.data.length dc) rfl (by kernel_rfl) (by kernel_rfl) (by kernel_rfl) (fun _ _ _ h => h) (Or.inl ⟨by rfl, ?_⟩) hHeld ?_
  · intro W hSw
    obtain ⟨-, hSw⟩ := hSw
    go_simp
  simp only [List.getElem_toArray, List.getElem_cons_zero, List.getElem_cons_succ, Act.put, List.setIfInBounds_toArray, List.set_cons_zero, List.set_cons_succ]
  refine wpAnyH_take (i := 32) (v := .pointer (some ⟨w.heap.size, 24, none⟩)) rfl (by kernel_rfl) (by kernel_rfl) (by kernel_rfl) (fun _ _ _ h => h) (Or.inl ⟨by rfl, ?_⟩) hHeld ?_
  · intro W hSw
    obtain ⟨-, hSw⟩ := hSw
    go_simp
  simp only [List.getElem_toArray, List.getElem_cons_zero, List.getElem_cons_succ, Act.put, List.setIfInBounds_toArray, List.set_cons_zero, List.set_cons_succ]
  refine wpAnyH_take (i := 33) (v := .slice da e.data.length dc) rfl (by kernel_rfl) (by kernel_rfl) (by kernel_rfl) (fun _ _ _ h => h) (Or.inl ⟨by rfl, ?_⟩) hHeld ?_
  · intro W hSw
    obtain ⟨-, hSw⟩ := hSw
    go_simp
  simp only [List.getElem_toArray, List.getElem_cons_zero, List.getElem_cons_succ, Act.put, List.setIfInBounds_toArray, List.set_cons_zero, List.set_cons_succ]
  refine wpAnyH_ready (rs := [31]) (by kernel_rfl) (by simp) ?_
  refine AllReadyH.cons rfl (fun K hK => ?_) AllReadyH.nil
  simp only [List.getElem_toArray, List.getElem_cons_zero, List.getElem_cons_succ]
  go_simp
  refine ((HX _ (HSdv.out.no hHeld.1)).out).mono ?_
  rintro r y3 ⟨rfl, hOk⟩
  have hO3 := hHeld.1.trans hOk
  refine hK.out _ _ (HK.out _ hO3) (fun hHeld => ?_)
  clear hK K hOk
  try simp only [List.getElem_toArray, List.getElem_cons_zero, List.getElem_cons_succ, Act.put, List.setIfInBounds_toArray, List.set_cons_zero, List.set_cons_succ]
  refine wpAnyH_ready (rs := [34]) (by kernel_rfl) (by simp) ?_
  refine AllReadyH.cons rfl (fun K hK => ?_) AllReadyH.nil
  simp only [List.getElem_toArray, List.getElem_cons_zero, List.getElem_cons_succ]
  go_simp
  refine ((HRX _ (HSdv.out.no hHeld.1)).out).mono ?_
  rintro r y4 ⟨rfl, hOk⟩
  have hO4 := hHeld.1.trans hOk
  refine hK.out _ _ (HK.out _ hO4) (fun hHeld => ?_)
  clear hK K hOk
  try simp only [List.getElem_toArray, List.getElem_cons_zero, List.getElem_cons_succ, Act.put, List.setIfInBounds_toArray, List.set_cons_zero, List.set_cons_succ]
  refine wpAnyH_take (i := 35) (v := .bool true) rfl (by kernel_rfl) (by kernel_rfl) (by kernel_rfl) (fun _ _ _ h => h) (Or.inl ⟨by rfl, ?_⟩) hHeld ?_
  · intro W hSw
    obtain ⟨-, hSw⟩ := hSw
    go_simp
  simp only [List.getElem_toArray, List.getElem_cons_zero, List.getElem_cons_succ, Act.put, List.setIfInBounds_toArray, List.set_cons_zero, List.set_cons_succ]
  refine wpAnyH_take (i := 36) (v := .bool true) rfl (by kernel_rfl) (by kernel_rfl) (by kernel_rfl) (fun _ _ _ h => h) (Or.inl ⟨by rfl, ?_⟩) hHeld ?_
  · intro W hSw
    obtain ⟨-, hSw⟩ := hSw
    go_simp
  simp only [List.getElem_toArray, List.getElem_cons_zero, List.getElem_cons_succ, Act.put, List.setIfInBounds_toArray, List.set_cons_zero, List.set_cons_succ]
  refine wpAnyH_take (i := 37) (v := .bool true) rfl (by kernel_rfl) (by kernel_rfl) (by kernel_rfl) (fun _ _ _ h => h) (Or.inl ⟨by rfl, ?_⟩) hHeld ?_
  · intro W hSw
    obtain ⟨-, hSw⟩ := hSw
    go_simp
  simp only [List.getElem_toArray, List.getElem_cons_zero, List.getElem_cons_succ, Act.put, List.setIfInBounds_toArray, List.set_cons_zero, List.set_cons_succ]
  refine wpAnyH_ready (rs := [38]) (by kernel_rfl) (by simp) ?_
  refine AllReadyH.cons rfl (fun K hK => ?_) AllReadyH.nil
  simp only [List.getElem_toArray, List.getElem_cons_zero, List.getElem_cons_succ]
  go_simp
  refine (HAL _).mono ?_
  rintro r y5 ⟨rfl, hOk⟩
  have hO5 := hHeld.1.trans hOk
  refine hK.out _ _ (HK.out _ hO5) (fun hHeld => ?_)
  clear hK K hOk
  try simp only [List.getElem_toArray, List.getElem_cons_zero, List.getElem_cons_succ, Act.put, List.setIfInBounds_toArray, List.set_cons_zero, List.set_cons_succ]
  refine wpAnyH_take (i := 39) (v := .bool true) rfl (by kernel_rfl) (by kernel_rfl) (by kernel_rfl) (fun _ _ _ h => h) (Or.inl ⟨by rfl, ?_⟩) hHeld ?_
  · intro W hSw
    obtain ⟨-, hSw⟩ := hSw
    go_simp
  simp only [List.getElem_toArray, List.getElem_cons_zero, List.getElem_cons_succ, Act.put, List.setIfInBounds_toArray, List.set_cons_zero, List.set_cons_succ]
  refine wpAnyH_take (i := 40) (v := .bool true) rfl (by kernel_rfl) (by kernel_rfl) (by kernel_rfl) (fun _ _ _ h => h) (Or.inl ⟨by rfl, ?_⟩) hHeld ?_
  · intro W hSw
    obtain ⟨-, hSw⟩ := hSw
    go_simp
  simp only [List.getElem_toArray, List.getElem_cons_zero, List.getElem_cons_succ, Act.put, List.setIfInBounds_toArray, List.set_cons_zero, List.set_cons_succ]
  refine wpAnyH_done (by kernel_rfl) ?_ _
  go_wp2_with fail
  go_ret
  exact ⟨rfl, HFin.out.trans hHeld.1⟩
end Go.Proofs.Ytlilhdkaaendlaa
