/- Line: the line of an event, or that there is none: the program's and the document's (printed by wip/tools/lines.py). No statement is proved here. -/
import Derived.Test.YtlilhdkaaendlaaTell
import Derived.Test.YtlilhdkaaendlaaEvent
import Derived.Test.YtlilhdkaaendlaaAlike
namespace Go.Proofs.Ytlilhdkaaendlaa
open Go.RowKit

def lineM (e : Ev) : List UInt8 × Int := if (evM (lineW ⟨(textM e).toArray⟩)).2 ≠ 0 ∨ alikeB (evM (lineW ⟨(textM e).toArray⟩)).1 e = false then ([], 1) else (textM e, 0)
theorem text_len {e : Ev} (he : e.In) : (textM e).length ≤ 1000000 := by
  have l1 := printM_len e.rep (by have := he.rep; omega) (by have := he.rep; omega)
  have l2 := printM_len e.dest (by have := he.dest; omega) (by have := he.dest; omega)
  have l3 := printM_len e.cart (by have := he.cart; omega) (by have := he.cart; omega)
  have l4 := printM_len e.at_ he.at_.1 he.at_.2
  have l5 := printM_len e.n he.n.1 he.n.2
  have l6 := printM_len e.onN he.onN.1 he.onN.2
  have l7 := printM_len ((e.data.headD 0).toNat : Int) (by omega) (by have := (e.data.headD 0).toNat_lt; omega)
  have l8 : (wordN e.item).length ≤ 3000 := wrd_size e.item he.ok.1
  have l9 : (wordN e.text).length ≤ 3000 := wrd_size e.text he.ok.2
  have l10 : (hexM e.data).length ≤ 3000 := hex_size e.data he.data
  have l11 : (modeW e.n).length ≤ 3000 := by
    unfold modeW
    split
    · decide
    · split <;> decide
  have l1' : (printM e.rep).length ≤ 3000 := by omega
  have l2' : (printM e.dest).length ≤ 3000 := by omega
  have l3' : (printM e.cart).length ≤ 3000 := by omega
  have l4' : (printM e.at_).length ≤ 3000 := by omega
  have l5' : (printM e.n).length ≤ 3000 := by omega
  have l6' : (printM e.onN).length ≤ 3000 := by omega
  have l7' : (printM ((e.data.headD 0).toNat : Int)).length ≤ 3000 := by omega
  refine join_bd _ ?_ ?_
  · unfold tellW
    repeat' split
    all_goals repeat' (first | exact List.forall_mem_nil _ | refine List.forall_mem_cons.2 ⟨?_, ?_⟩)
    all_goals first | assumption | decide
  · have key : ∀ (c : Prop) [Decidable c] (a b : List (List UInt8)), a.length ≤ 10 → b.length ≤ 10 → (if c then a else b).length ≤ 10 := by
      intro c _ a b ha hb
      by_cases h : c
      · rw [if_pos h]; exact ha
      · rw [if_neg h]; exact hb
    unfold tellW
    repeat' (first | refine key _ _ _ ?_ ?_ | exact Nat.le_of_ble_eq_true rfl)
theorem unhex_len (l : List UInt8) : (unhexM l).1.length ≤ l.length := by
  unfold unhexM
  by_cases h1 : l = [45]
  · rw [if_pos h1]; exact Nat.zero_le _
  rw [if_neg h1]
  by_cases h2 : l.length = 0 ∨ l.length % 2 = 1
  · rw [if_pos h2]; exact Nat.zero_le _
  rw [if_neg h2]
  by_cases h3 : okH l = true
  · rw [if_pos h3]
    show ((List.range (l.length / 2)).map (fullB l)).length ≤ l.length
    rw [List.length_map, List.length_range]
    omega
  · rw [if_neg h3]; exact Nat.zero_le _
theorem rdM_data (L : List ByteArray) (M : Nat) (h : ∀ q ∈ L, q.size ≤ M) : (rdM L).1.data.length ≤ M + 1 := by
  unfold rdM
  split
  · simp
  · split
    · unfold doM
      split <;> simp
    all_goals first
      | (simp [gossipM, beginM, roundM, flightM, spoilM]; done)
      | skip
    · rename_i a d _
      have h1 : (unhexM d.data.toList).1.length ≤ d.data.toList.length := unhex_len _
      have h2 := h d (by simp)
      have h3 : d.data.toList.length = d.size := rfl
      show (unhexM d.data.toList).1.length ≤ M + 1
      omega
theorem evM_data (s : ByteArray) : (evM (lineW s)).1.data.length ≤ s.size + 1 := by
  unfold evM
  split
  · simp
  · split
    · exact rdM_data _ _ (lineW_le s).2
    · simp
set_option maxRecDepth 100000 in
set_option maxHeartbeats 1600000 in
theorem eline_c (e : Ev) (he : e.In) (dv : Value) (w : World) (hd : Sees w dv (bys e.data)) : Calls Try.prog 15 #[evV e dv] w fun x w' => x = .returned (.tuple #[.string ⟨(lineM e).1.toArray⟩, .int .i64 (lineM e).2]) ∧ Only No w w' := by
  have HT := fun (W : World) (h : Sees W dv (bys e.data)) => Lib.hid (tell_c e he dv W h)
  have htl := text_len he
  have hsz : (⟨(textM e).toArray⟩ : ByteArray).size ≤ 1000000 := by show (textM e).toArray.size ≤ 1000000; simpa using htl
  have HE := fun W : World => Lib.hid (event_c ⟨(textM e).toArray⟩ W (by omega))
  have hdl := evM_data ⟨(textM e).toArray⟩
  have hok2 := evM_ok (lineW ⟨(textM e).toArray⟩)
  have hL : lineM e = if (evM (lineW ⟨(textM e).toArray⟩)).2 ≠ 0 ∨ alikeB (evM (lineW ⟨(textM e).toArray⟩)).1 e = false then ([], 1) else (textM e, 0) := rfl
  obtain ⟨S, hS⟩ : ∃ S : ByteArray, S = ⟨(textM e).toArray⟩ := ⟨_, rfl⟩
  have hSt : S.data.toList = textM e := by rw [hS]
  rw [← hS] at HT HE hdl hok2 hL hsz
  obtain ⟨x2, er, hev⟩ : ∃ x er, (x, er) = evM (lineW S) := ⟨_, _, rfl⟩
  rw [← hev] at HE hdl hok2 hL
  simp only at hdl hok2 hL
  obtain ⟨LM, hLM⟩ : ∃ L, L = lineM e := ⟨_, rfl⟩
  rw [← hLM] at hL ⊢
  have HL := Lib.hid hL
  have HSt := Lib.hid hSt
  have HA := fun (W : World) (d2 : Value) (h1 : Sees W d2 (bys x2.data)) (h2 : Sees W dv (bys e.data)) => Lib.hid (alike_c x2 e hok2 he.ok d2 dv W h1 h2 (by omega))
  have hone : dv.oneCell' = true := by obtain ⟨da, dc, hq, -⟩ := hd.form; rw [hq]; rfl
  have hO : Only No w (w.alloc (.cells (evA e dv) 55)) := (Only.refl _ _).alloc _
  have hb : Blk (w.alloc (.cells (evA e dv) 55)) w.heap.size (evA e dv) 55 := Blk.new _ _ _
  have HD := Lib.hid (hd.no hO)
  clear hL hLM hev hS hSt hd
  go_enter Try.func15, Try.ntmps15
  unfold evV
  go_upto_region 1 with fail
  have HO := Lib.hid hO
  generalize (w.alloc (.cells (evA e dv) 55)) = w1 at *
  have HB := Lib.hid hb
  clear hO hb
  go_wp2_with (refine wpList_load_row rfl 55 (.tmp 1) rfl w.heap.size rfl _ _ (0, 0) _ HB.out Try.underlying55 rfl (info_evA he.ok _) ?_)
  refine (HT _ HD.out).out.mono ?_
  rintro x w2 ⟨rfl, hO2⟩
  go_wp2_with fail
  refine (HE _).out.mono ?_
  rintro x w3 ⟨d2, rfl, hd2, hd2f, hO3⟩
  simp only at hd2
  have hone2 : d2.oneCell' = true := by obtain ⟨da, dc, hq, -⟩ := hd2.form; rw [hq]; rfl
  have hbn := Blk.new w3 zero25 55
  have hO4 : Only No w3 ((w3.alloc (.cells zero25 55)).setRow w3.heap.size (evA x2 d2)) := only_setRow ((Only.refl _ _).alloc _) _ _ (fun hk => absurd hk (Nat.lt_irrefl _))
  have hb5 : Blk ((w3.alloc (.cells zero25 55)).setRow w3.heap.size (evA x2 d2)) w3.heap.size (evA x2 d2) 55 := blk_setRow hbn _
  have hb1 := (hO2.trans (hO3.trans hO4)).blk HB.out id
  have HF := Lib.hid (HO.out.trans (hO2.trans (hO3.trans hO4)))
  have HD1 := Lib.hid (HD.out.no (hO2.trans (hO3.trans hO4)))
  have HD2 := Lib.hid (hd2.no hO4)
  have H5 := Lib.hid hb5
  have H1 := Lib.hid hb1
  have HN := Lib.hid hbn
  clear hO2 hO3 hO4 hd2 hd2f hb5 hb1 hbn
  by_cases her : er = 0
  · have hAB := Lib.hid her
    have E0 := Lib.hid her
    subst her
    go_wp2_with (first
      | (refine wpList_store_row rfl 55 (.tmp 5) (.tmp 12) rfl w3.heap.size (evA x2 d2) rfl rfl _ _ HN.out (info_evA hok2 _) (by rw [evA_size hok2]; rfl) (one_evA _ hone2) ?_)
      | (refine wpList_load_rowG (by rfl) 55 (.tmp 5) rfl w3.heap.size rfl _ _ (0, 0) _ H5.out Try.underlying55 rfl (info_evA hok2 _) ?_)
      | (refine wpList_load_rowG (by rfl) 55 (.tmp 1) rfl w.heap.size rfl _ _ (0, 0) _ H1.out Try.underlying55 rfl (info_evA he.ok _) ?_))
    have HAA := HA _ d2 HD2.out HD1.out
    cases hal : alikeB x2 e with
    | true =>
      rw [hal] at HAA
      refine HAA.out.mono ?_
      rintro x w6 ⟨rfl, hO6⟩
      have hR : LM = (textM e, 0) := by rw [HL.out, if_neg (by rintro (h | h); exact h rfl; rw [hal] at h; cases h)]
      have HR := Lib.hid hR
      clear hal hR
      go_wp2_with fail
      go_ret2
      rw [HR.out]
      refine ⟨ret_eq ?_, HF.out.trans hO6⟩
      have e : S = ⟨(textM e).toArray⟩ := by rw [← HSt.out]
      rw [e]
      rfl
    | false =>
      rw [hal] at HAA
      refine HAA.out.mono ?_
      rintro x w6 ⟨rfl, hO6⟩
      have hR : LM = ([], 1) := by rw [HL.out, if_pos (.inr hal)]
      have HR := Lib.hid hR
      clear hal hR
      go_wp2_with fail
      go_ret2
      rw [HR.out]
      exact ⟨rfl, HF.out.trans hO6⟩
  · have hR : LM = ([], 1) := by rw [HL.out, if_pos (.inl her)]
    have HR := Lib.hid hR
    have hq0 : (er == 0) = false := beq_eq_false_iff_ne.2 her
    have hq1 : (er != 0) = true := bne_iff_ne.2 her
    clear hR her
    go_wp2_with (first
      | (refine wpList_store_row rfl 55 (.tmp 5) (.tmp 12) rfl w3.heap.size (evA x2 d2) rfl rfl _ _ HN.out (info_evA hok2 _) (by rw [evA_size hok2]; rfl) (one_evA _ hone2) ?_))
    go_ret2
    rw [HR.out]
    exact ⟨rfl, HF.out⟩
end Go.Proofs.Ytlilhdkaaendlaa
