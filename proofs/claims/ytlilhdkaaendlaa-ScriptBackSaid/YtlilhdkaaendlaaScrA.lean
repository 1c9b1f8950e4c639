/- A whole row loaded in a region that draws its order. The readers of a setup's lines. The reader of the line of rules. How a line of a setup is read, and a line of a script. A line of a script that is an event; what Read hands back. No statement is proved here. -/
import Derived.Test.YtlilhdkaaendlaaBase
import Derived.Laws.CopyRow
import Derived.Test.YtlilhdkaaendlaaScrP
import Derived.Great.BuildSlice

namespace Go.Proofs.Ytlilhdkaaendlaa
open Go.RowKit

theorem yieldsIf_row {P : Program} {ops : Array Oper} {S : World → Prop} {op : Oper} {a : Act} (hw : Region.wanted op (yielded ops a.tmps) = true) (ty : TypeId) (x : Operand) (ho : op.op = .load ty x)
    (g : Nat) (hx : a.eval x = .pointer (some ⟨g, 0, none⟩)) (t : TypeId) (cs : Array Value) (d : TypeDesc) (hS : ∀ w, S w → Blk w g cs t)
    (hu : P.underlying ty = some d) (hd : (match d with | .struct _ | .array _ _ => true | _ => false) = true) (hi : (P.info? ty).map (·.size) = some cs.size) : YieldsIf P ops S op (.agg cs) a :=
  .inl ⟨hw, fun w hw' => by
    unfold execOp
    simp only [ho, hx, Instr.loadAt, Instr.sureAddr, Sem.run_bind, Sem.run_pure, Result.andThen_ok]
    rw [run_loadVar_row w g t ty cs (0, 0) d (hS w hw') hu hd hi]
    rfl⟩
end Go.Proofs.Ytlilhdkaaendlaa

namespace Go.Proofs.Ytlilhdkaaendlaa
open Go.RowKit

theorem WAt.of {S : Nat → Prop} {w w' : World} {b rb : Nat} {e : Int} {l : List ByteArray} (h : WAt w b rb e l) (hO : Only S w w') (hb : ¬ S b) (hr : ¬ S rb) : WAt w' b rb e l := by
  obtain ⟨v, q1, q2, q3, q4, q5⟩ := h
  exact ⟨v, hO.blk q1 hb, q2.only hO (fun k hk e => hr (by rw [← q3 k hk]; exact e)), q3, q4, Nat.lt_of_lt_of_le q5 hO.size⟩
theorem FAt.of {S : Nat → Prop} {w w' : World} {b rb : Nat} {e : Int} {l : List ByteArray} (h : FAt w b rb e l) (hO : Only S w w') (hb : ¬ S b) (hr : ¬ S rb) : FAt w' b rb e l := by
  obtain ⟨v, q1, q2, q3, q4, q5⟩ := h
  exact ⟨v, hO.blk q1 hb, q2.only hO (fun k hk e => hr (by rw [← q3 k hk]; exact e)), q3, q4, Nat.lt_of_lt_of_le q5 hO.size⟩
def rdA (st : RM) (pv lv : Value) : Array Value := (suL st.su pv ++ [lv, .bool st.had, .bool st.ruled]).toArray
theorem rd_n (st : RM) (pv lv : Value) (x : Int) : (rdA st pv lv).setIfInBounds 0 (.int .i64 x) = rdA { st with su := { st.su with n := x } } pv lv := rfl
theorem rd_pairs (st : RM) (pv lv pv' : Value) (l : List (Int × Int)) : (rdA st pv lv).setIfInBounds 1 pv' = rdA { st with su := { st.su with pairs := l } } pv' lv := rfl
theorem rd_had (st : RM) (pv lv : Value) : (rdA st pv lv).setIfInBounds 8 (.bool true) = rdA { st with had := true } pv lv := rfl
theorem rd_evs (st : RM) (pv lv lv' : Value) (l : List Ev) : (rdA st pv lv).setIfInBounds 7 lv' = rdA { st with evs := l } pv lv' := rfl
set_option maxRecDepth 100000 in
theorem replicas_c (b wb rb : Nat) (st : RM) (pv lv : Value) (p : ByteArray) (w : World) (hb : Blk w b (rdA st pv lv) 80) (h : WAt w wb rb 0 [p]) (hbw : b ≠ wb) (hbr : b ≠ rb) (hs : p.size ≤ 1000000000) :
    Calls Try.prog 84 #[.pointer (some ⟨b, 0, none⟩), .pointer (some ⟨wb, 0, none⟩)] w fun x w' => x = .returned (.tuple #[]) ∧ Blk w' b (rdA (repM st p).1 pv lv) 80 ∧ WAt w' wb rb (repM st p).2 [] ∧ Only (fun k => k = b ∨ k = wb) w w' := by
  have HN := Lib.hid (next_c wb rb 0 p [] w h)
  unfold repM
  obtain ⟨n, f, hnf⟩ : ∃ n f, (n, f) = parseM p.data.toList 1 16 := ⟨_, _, rfl⟩
  have HP := fun W : World => Lib.hid (parse_c p 1 16 W hs)
  rw [← hnf] at HP ⊢
  clear hnf h
  have HB := Lib.hid hb
  clear hb
  go_enter Try.func84, Try.ntmps84
  go_wp2_with fail
  refine HN.out.mono ?_
  rintro x w1 ⟨rfl, hW, hO⟩
  go_wp2_with fail
  refine (HP _).out.mono ?_
  rintro x w2 ⟨rfl, nd, rfl⟩
  have HK := Lib.hid (keep_c wb rb 0 f [] _ (hW.only ((Only.refl No w1).drewN nd)))
  have hO2 : Only (· = wb) w (w1.drewN nd) := hO.drewN nd
  clear hW hO
  go_wp2_with fail
  refine HK.out.mono ?_
  rintro x w3 ⟨rfl, hW3, hO3⟩
  have hO4 := hO2.trans hO3
  have hb3 := hO4.blk HB.out hbw
  have c0 := hb3.cell 0 _ rfl
  have c8 := hb3.cell 8 _ rfl
  have f0 := hb3.free 0
  have f8 := hb3.free 8
  have HF := Lib.hid (And.intro hb3 (And.intro hW3 hO4))
  clear hb3 hW3 hO4 hO2 hO3
  go_wp2_with fail
  go_end0
  obtain ⟨h1, h2, h3⟩ := HF.out
  have hS : Only (· = b) w3 ((w3.setCell ⟨b, 0, none⟩ (.int .i64 n)).setCell ⟨b, 8, none⟩ (.bool true)) := ((Only.refl _ _).set1 0 _).set1 8 _
  refine ⟨rfl, ?_, h2.of hS (fun e => hbw e.symm) (fun e => hbr e.symm), (h3.mono (fun k _ hk => .inr hk)).then hS (fun k _ hk => .inl hk)⟩
  have := (h1.set 0 (.int .i64 n)).set 8 (.bool true)
  rw [rd_n, rd_had] at this
  exact this
theorem info_gpair : (Try.prog.info? 90).map (fun i => (i.zero, i.size, i.bytes)) = some (some (.agg #[.int .u8 0, .int .u8 0]), 2, 2) := by kernel_rfl
set_option maxRecDepth 100000 in
set_option maxHeartbeats 1600000 in
theorem join_c (b wb rb base : Nat) (st : RM) (pv lv : Value) (es : List (Ev × Value)) (p q : ByteArray) (w0 w : World) (hR : Rows44 w0 base 90 55 pv lv st.su.pairs es) (hO0 : Only No w0 w) (hbb : b < base) (hbs : base ≤ w0.heap.size)
    (hwb : w0.heap.size ≤ wb) (hrb : w0.heap.size ≤ rb) (hb : Blk w b (rdA st pv lv) 80) (h : WAt w wb rb 0 [p, q]) (hp : p.size ≤ 1000000000) (hq : q.size ≤ 1000000000) (hn : st.su.pairs.length ≤ 1000000000) :
    Calls Try.prog 85 #[.pointer (some ⟨b, 0, none⟩), .pointer (some ⟨wb, 0, none⟩)] w fun x w' => x = .returned (.tuple #[]) ∧ ∃ pv', Blk w' b (rdA (joinM st p q).1 pv' lv) 80 ∧
      Rows44 w' base 90 55 pv' lv (joinM st p q).1.su.pairs es ∧ WAt w' wb rb (joinM st p q).2 [] ∧ Only (fun k => k = b ∨ base ≤ k) w0 w' := by
  have HN := Lib.hid (fun (W : World) (h : WAt W wb rb 0 [p, q]) => byte_c wb rb 0 p [q] W h hp)
  have HM := Lib.hid (fun (W : World) (h : WAt W wb rb (numE 255 p).2 [q]) => byte_c wb rb _ q [] W h hq)
  unfold joinM
  obtain ⟨x1, e1, he1⟩ : ∃ x e, (x, e) = numE 255 p := ⟨_, _, rfl⟩
  obtain ⟨x2, e2, he2⟩ : ∃ x e, (x, e) = numE 255 q := ⟨_, _, rfl⟩
  rw [← he1] at HN HM ⊢
  rw [← he2] at HM ⊢
  simp only at HN HM ⊢
  clear he1 he2
  obtain ⟨i0, hi, hz0, hz1, hz2⟩ := info_parts info_gpair
  have hwne : b ≠ wb := by omega
  have hrne : b ≠ rb := by omega
  have HB := Lib.hid (fun (W : World) (h : Only (· = wb) w W) => h.blk hb hwne)
  have HC := Lib.hid (fun (W : World) (h : Only (· = wb) w W) => And.intro ((h.blk hb hwne).cell 1 pv rfl) ((h.blk hb hwne).free 1))
  have HR := Lib.hid hR
  have HW := Lib.hid h
  have HO0 := Lib.hid hO0
  clear hb hR h hO0
  obtain ⟨prs, hprs⟩ : ∃ prs, prs = st.su.pairs := ⟨_, rfl⟩
  rw [← hprs] at HR hn ⊢
  have HP := Lib.hid hprs
  clear hprs
  obtain ⟨a9, c9, rfl⟩ := bun_form HR.out.bun 0 rfl
  have HL := Lib.hid (fun (W : World) (h : Only No w0 W) => Lib.hid (HR.out.only h (fun _ _ _ h => h)).bun)
  have HE := Lib.hid (fun (W W' : World) (g : Unit) (h : Only (· = wb) w W) (h2 : Only (fun k => (Value.slice a9 prs.length c9).ownBlock = some k) W W') => (show W'.cell? ⟨b, 1, none⟩ = some (.slice a9 prs.length c9) ∧ W'.frozen? ⟨b, 1, none⟩ = false from by
    have hB3 := h2.blk (HB.out _ h) (fun e => by have := ((HR.out.bun.owns 0 _ rfl).lt (b := b) e).1; omega)
    exact ⟨hB3.cell 1 _ rfl, hB3.free 1⟩))
  go_enter Try.func85, Try.ntmps85
  go_wp2_with fail
  obtain ⟨hc0, hf0⟩ := HC.out _ (Only.refl _ _)
  go_region_law (first
    | (refine step_append2 0 (by rfl) (.tmp 9) (.tmp 15) 23 (by rfl) base 90 i0 (.agg #[.int .u8 0, .int .u8 0]) 2 2 Try.underlying23 hi hz0 hz1 hz2 rfl (by decide) _ HBun.out 0 _ _ _ rfl (by rfl) [.int .u8 x1, .int .u8 x2] _ w2.heap.size rfl (by rfl) rfl (by simp [Value.oneCell']) (by unfold maxLen; omega) (by omega) (by omega) (by rfl) ?_; intro g cap w3 hBn hOn hat; obtain ⟨hc3, hf3⟩ := HE.out _ _ () hOw2 hOn)
    | (go_simp; refine (HN.out _ (HW.out.only (Only.refl _ _).drew)).mono ?_; rintro x w1 ⟨rfl, hW1, hO1⟩; have hOw1 := hO1.of_drew; obtain ⟨hc1, hf1⟩ := HC.out _ hOw1)
    | (go_simp; refine (HM.out _ hW1).mono ?_; rintro x w2 ⟨rfl, hW2, hO2⟩; have hOw2 := hOw1.trans hO2; obtain ⟨hc2, hf2⟩ := HC.out _ hOw2; have hO02 : Only No w0 w2 := HO0.out.then hOw2 (fun k hk e => by have e' : k = wb := e; omega); have hz2' := hO02.size; have HBun := HL.out _ hO02; have hc2a : (w2.alloc (.cells #[.int .u8 x1, .int .u8 x2] 90)).cell? ⟨b, 1, none⟩ = some (.slice a9 prs.length c9) := (((Only.refl No w2).alloc _).blk (HB.out _ hOw2) id).cell 1 _ rfl))
  all_goals
    go_wp2_with fail
    go_end0
    have hR2 := HR.out.only hO02 (fun _ _ _ h => h)
    have hbne : ∀ k, (Value.slice a9 prs.length c9).ownBlock = some k → base ≤ k ∧ k < w0.heap.size := fun k hk => (HR.out.bun.owns 0 _ rfl).lt hk
    have hB3 := hOn.blk (HB.out _ hOw2) (fun e => by have := hbne b e; omega)
    have hR3 := hR2.pair (x := (x1, x2)) (pv' := .slice (some ⟨g, 0, none⟩) (prs.length + 1) cap) ⟨g, cap, rfl, hat⟩ (by simpa [List.set] using hBn) hOn
    have hW3 := hW2.of hOn (fun e => by have h3 := hbne wb e; omega) (fun e => by have h3 := hbne rb e; omega)
    have hS4 : Only (· = b) w3 (w3.setCell ⟨b, 1, none⟩ (.slice (some ⟨g, 0, none⟩) (prs.length + 1) cap)) := (Only.refl _ _).set1 1 _
    have hB4 := hB3.set 1 (.slice (some ⟨g, 0, none⟩) (prs.length + 1) cap)
    rw [rd_pairs st _ lv _ (st.su.pairs ++ [(x1, x2)])] at hB4
    refine ⟨rfl, _, hB4, ?_, ?_, ?_⟩
    · exact hR3.only hS4 (fun k hk _ e => by have e' : k = b := e; omega)
    · exact hW3.of hS4 (fun e => hwne e.symm) (fun e => hrne e.symm)
    · exact ((hO02.mono (T := fun k => k = b ∨ base ≤ k) (fun k _ h => h.elim)).then hOn (fun k hk e => .inr (hbne k e).1)).then hS4 (fun k _ e => .inl e)
end Go.Proofs.Ytlilhdkaaendlaa

namespace Go.Proofs.Ytlilhdkaaendlaa
open Go.RowKit

theorem rd_back (st : RM) (pv lv : Value) (x : Bool) : (rdA st pv lv).setIfInBounds 2 (.bool x) = rdA { st with su := { st.su with back := x } } pv lv := rfl
theorem rd_red (st : RM) (pv lv : Value) (x : Bool) : (rdA st pv lv).setIfInBounds 3 (.bool x) = rdA { st with su := { st.su with red := x } } pv lv := rfl
theorem rd_room (st : RM) (pv lv : Value) (x : Int) : (rdA st pv lv).setIfInBounds 4 (.int .i64 x) = rdA { st with su := { st.su with room := x } } pv lv := rfl
theorem rd_budget (st : RM) (pv lv : Value) (x : Int) : (rdA st pv lv).setIfInBounds 5 (.int .i64 x) = rdA { st with su := { st.su with budget := x } } pv lv := rfl
theorem rd_seed (st : RM) (pv lv : Value) (x : Int) : (rdA st pv lv).setIfInBounds 6 (.int .u64 x) = rdA { st with su := { st.su with seed := x } } pv lv := rfl
theorem rd_ruled (st : RM) (pv lv : Value) : (rdA st pv lv).setIfInBounds 9 (.bool true) = rdA { st with ruled := true } pv lv := rfl
set_option maxRecDepth 100000 in
set_option maxHeartbeats 1600000 in
theorem rules_c (b wb rb : Nat) (st : RM) (pv lv : Value) (p1 p2 p3 p4 p5 : ByteArray) (w : World) (hb : Blk w b (rdA st pv lv) 80) (h : WAt w wb rb 0 [p1, p2, p3, p4, p5]) (hbw : b ≠ wb) (hbr : b ≠ rb)
    (h3 : p3.size ≤ 1000000000) (h4 : p4.size ≤ 1000000000) (h5 : p5.size ≤ 1000000000) :
    Calls Try.prog 86 #[.pointer (some ⟨b, 0, none⟩), .pointer (some ⟨wb, 0, none⟩)] w fun x w' => x = .returned (.tuple #[]) ∧ Blk w' b (rdA (rulesM st p1 p2 p3 p4 p5).1 pv lv) 80 ∧
      WAt w' wb rb (rulesM st p1 p2 p3 p4 p5).2 [] ∧ Only (fun k => k = b ∨ k = wb) w w' := by
  obtain ⟨hlt, hlr, hrne⟩ := h.lt
  have hblt := hb.lt
  have hO0 : Only No w (w.alloc (.cells #[.pointer (some ⟨wb, 0, none⟩)] 96)) := (Only.refl _ _).alloc _
  have hcb := (Blk.new w #[.pointer (some ⟨wb, 0, none⟩)] 96).cell 0 _ rfl
  have HA := Lib.hid (fun (W : World) (hc : W.cell? ⟨w.heap.size, 0, none⟩ = some (.pointer (some ⟨wb, 0, none⟩))) (e : Int) (p : ByteArray) (r : List ByteArray) (h : WAt W wb rb e (p :: r)) => answer_c wb rb w.heap.size e p r W h hc)
  have HT := Lib.hid (fun (W : World) (e : Int) (p : ByteArray) (r : List ByteArray) (h : WAt W wb rb e (p :: r)) (hs : p.size ≤ 1000000000) => at_c wb rb e p r W h hs)
  have HM := Lib.hid (fun (W : World) (e : Int) (p : ByteArray) (r : List ByteArray) (h : WAt W wb rb e (p :: r)) (hs : p.size ≤ 1000000000) => number_c wb rb e p r 9223372036854775807 W h hs)
  have hbd := parse_bd p5.data.toList 9223372036854775807 (by omega)
  unfold rulesM ruleE
  have HC := Lib.hid (fun (W : World) (h : Only (fun k => k = b ∨ k = wb) (w.alloc (.cells #[.pointer (some ⟨wb, 0, none⟩)] 96)) W) => (h.cell (p := ⟨w.heap.size, 0, none⟩) (by show w.heap.size < (w.alloc _).heap.size; simp) (by show ¬ (w.heap.size = b ∨ w.heap.size = wb); omega)).trans hcb)
  have HB := Lib.hid (hO0.blk hb id)
  have HW := Lib.hid (h.only hO0)
  have HO0 := Lib.hid hO0
  obtain ⟨y1, hy1⟩ : ∃ y, y = yesM p1 := ⟨_, rfl⟩
  obtain ⟨y2, hy2⟩ : ∃ y, y = yesM p2 := ⟨_, rfl⟩
  obtain ⟨x3, e3, he3⟩ : ∃ x e, (x, e) = numE 2147483647 p3 := ⟨_, _, rfl⟩
  obtain ⟨x4, e4, he4⟩ : ∃ x e, (x, e) = numE 2147483647 p4 := ⟨_, _, rfl⟩
  obtain ⟨x5, e5, he5⟩ : ∃ x e, (x, e) = numE 9223372036854775807 p5 := ⟨_, _, rfl⟩
  rw [show parseM p5.data.toList 0 9223372036854775807 = numE 9223372036854775807 p5 from rfl, ← he5] at hbd
  have hw5 : IntKind.u64.wrap x5 = x5 := IntWalk.u64_in _ (by simp only at hbd; omega)
  rw [← hy1, ← hy2, ← he3, ← he4, ← he5]
  have HY := Lib.hid (And.intro hy1 (And.intro hy2 (And.intro he3 (And.intro he4 he5))))
  have HS := Lib.hid (And.intro hlt (And.intro hlr (And.intro hrne hblt)))
  have HW5 := Lib.hid hw5
  clear hy1 hy2 he3 he4 he5 hb h hcb hbd hlt hlr hrne hblt hO0 hw5
  go_enter Try.func86, Try.ntmps86
  go_wp2_with fail
  generalize (w.alloc (.cells #[.pointer (some ⟨wb, 0, none⟩)] 96)) = wa at *
  refine (HA.out _ (HC.out _ (Only.refl _ _)) _ _ _ HW.out).mono ?_
  rintro x w1 ⟨rfl, hW1, hO1⟩
  have hOa : Only (fun k => k = b ∨ k = wb) wa w1 := hO1.mono (fun k _ h => .inr h)
  have hc1 := HC.out _ hOa
  rw [← HY.out.1]
  go_wp2_with fail
  refine (HA.out _ hc1 _ _ _ hW1).mono ?_
  rintro x w2 ⟨rfl, hW2, hO2⟩
  have hO12 := hO1.trans hO2
  rw [← HY.out.2.1]
  have hb2 := hO12.blk HB.out hbw
  have k2 := hb2.cell 2 _ rfl
  have k3 := hb2.cell 3 _ rfl
  have g2 := hb2.free 2
  have g3 := hb2.free 3
  have hS2 : Only (· = b) w2 ((w2.setCell ⟨b, 2, none⟩ (.bool y1)).setCell ⟨b, 3, none⟩ (.bool y2)) := ((Only.refl _ _).set1 _ _).set1 _ _
  have hb3 := (hb2.set 2 (.bool y1)).set 3 (.bool y2)
  rw [rd_back, rd_red] at hb3
  have hW3 := hW2.of hS2 (fun e => hbw e.symm) (fun e => hbr e.symm)
  have hO3 : Only (fun k => k = b ∨ k = wb) wa ((w2.setCell ⟨b, 2, none⟩ (.bool y1)).setCell ⟨b, 3, none⟩ (.bool y2)) := (hO12.mono (fun k _ h => .inr h)).then hS2 (fun k _ h => .inl h)
  have HF := Lib.hid (And.intro hb3 (And.intro hW3 hO3))
  clear hO1 hW1 hOa hc1 hW2 hO2 hO12 hb2 hS2 hb3 hW3 hO3
  go_wp2_with fail
  generalize ((w2.setCell ⟨b, 2, none⟩ (.bool y1)).setCell ⟨b, 3, none⟩ (.bool y2)) = w3 at *
  clear k2 k3 g2 g3
  have hc3 := HC.out _ HF.out.2.2
  refine wp_region_held_drew (S := fun w' => w'.cell? ⟨w.heap.size, 0, none⟩ = some (.pointer (some ⟨wb, 0, none⟩))) (by kernel_rfl) hc3 (fun hHeld => ?_)
  refine wpAnyH_take (i := 0) (v := .pointer (some ⟨b, 2, none⟩)) rfl (by kernel_rfl) (by kernel_rfl) (by kernel_rfl) (fun _ _ _ h => h) (Or.inl ⟨by rfl, ?_⟩) hHeld ?_
  · intro W hSw
    go_simp
  try simp only [List.getElem_toArray, List.getElem_cons_zero, Act.put, List.setIfInBounds_toArray, List.set_cons_zero, List.set_cons_succ]
  refine wpAnyH_take (i := 1) (v := .pointer (some ⟨b, 2, none⟩)) rfl (by kernel_rfl) (by kernel_rfl) (by kernel_rfl) (fun _ _ _ h => h) (Or.inl ⟨by rfl, ?_⟩) hHeld ?_
  · intro W hSw
    go_simp
  try simp only [List.getElem_toArray, List.getElem_cons_zero, List.getElem_cons_succ, Act.put, List.setIfInBounds_toArray, List.set_cons_zero, List.set_cons_succ]
  refine wpAnyH_take (i := 2) (v := .pointer (some ⟨wb, 0, none⟩)) rfl (by kernel_rfl) (by kernel_rfl) (by kernel_rfl) (fun _ _ _ h => h) (Or.inl ⟨by rfl, ?_⟩) hHeld ?_
  · intro W hSw
    go_simp
  try simp only [List.getElem_toArray, List.getElem_cons_zero, List.getElem_cons_succ, Act.put, List.setIfInBounds_toArray, List.set_cons_zero, List.set_cons_succ]
  refine wpAnyH_take (i := 4) (v := .pointer (some ⟨wb, 0, none⟩)) rfl (by kernel_rfl) (by kernel_rfl) (by kernel_rfl) (fun _ _ _ h => h) (Or.inl ⟨by rfl, ?_⟩) hHeld ?_
  · intro W hSw
    go_simp
  try simp only [List.getElem_toArray, List.getElem_cons_zero, List.getElem_cons_succ, Act.put, List.setIfInBounds_toArray, List.set_cons_zero, List.set_cons_succ]
  refine wpAnyH_ready (rs := [3]) (by kernel_rfl) (by simp) ?_
  refine AllReadyH.cons rfl (fun K hK => ?_) AllReadyH.nil
  simp only [List.getElem_toArray, List.getElem_cons_zero, List.getElem_cons_succ]
  go_simp
  refine (HT.out _ _ _ _ (HF.out.2.1.only (Only.refl _ _).drew) h3).mono ?_
  rintro x w4 ⟨rfl, hW4, hO4⟩
  have hO34 := hO4.of_drew
  have hOw4 := HF.out.2.2.then hO34 (fun k _ h => .inr h)
  refine hK.out _ _ (HC.out _ hOw4) (fun hHeld => ?_)
  clear hK K hO4
  try simp only [List.getElem_toArray, List.getElem_cons_zero, List.getElem_cons_succ, Act.put, List.setIfInBounds_toArray, List.set_cons_zero, List.set_cons_succ]
  refine wpAnyH_ready (rs := [5]) (by kernel_rfl) (by simp) ?_
  refine AllReadyH.cons rfl (fun K hK => ?_) AllReadyH.nil
  simp only [List.getElem_toArray, List.getElem_cons_zero, List.getElem_cons_succ]
  go_simp
  refine (HT.out _ _ _ _ hW4 h4).mono ?_
  rintro x w5 ⟨rfl, hW5, hO5⟩
  have hO35 := hO34.trans hO5
  have hOw5 := HF.out.2.2.then hO35 (fun k _ h => .inr h)
  rw [← HY.out.2.2.1, ← HY.out.2.2.2.1]
  have hb5 := hO35.blk HF.out.1 hbw
  have k4 := hb5.cell 4 _ rfl
  have k5 := hb5.cell 5 _ rfl
  have g4 := hb5.free 4
  have g5 := hb5.free 5
  refine hK.out _ _ (HC.out _ hOw5) (fun hHeld => ?_)
  clear hK K
  try simp only
  refine wpAnyH_take (i := 6) (v := .pointer (some ⟨b, 2, none⟩)) rfl (by kernel_rfl) (by kernel_rfl) (by kernel_rfl) (fun _ _ _ h => h) (Or.inl ⟨by rfl, ?_⟩) hHeld ?_
  · intro W hSw
    go_simp
  try simp only [List.getElem_toArray, List.getElem_cons_zero, List.getElem_cons_succ, Act.put, List.setIfInBounds_toArray, List.set_cons_zero, List.set_cons_succ]
  refine wpAnyH_take (i := 7) (v := .pointer (some ⟨b, 2, none⟩)) rfl (by kernel_rfl) (by kernel_rfl) (by kernel_rfl) (fun _ _ _ h => h) (Or.inl ⟨by rfl, ?_⟩) hHeld ?_
  · intro W hSw
    go_simp
  try simp only [List.getElem_toArray, List.getElem_cons_zero, List.getElem_cons_succ, Act.put, List.setIfInBounds_toArray, List.set_cons_zero, List.set_cons_succ]
  refine wpAnyH_take (i := 8) (v := .pointer (some ⟨b, 4, none⟩)) rfl (by kernel_rfl) (by kernel_rfl) (by kernel_rfl) (fun _ _ _ h => h) (Or.inl ⟨by rfl, ?_⟩) hHeld ?_
  · intro W hSw
    go_simp
  try simp only [List.getElem_toArray, List.getElem_cons_zero, List.getElem_cons_succ, Act.put, List.setIfInBounds_toArray, List.set_cons_zero, List.set_cons_succ]
  have hOs1 : Only (fun k => k = b ∨ k = wb) (wa) (w5.setCell ⟨b, 4, none⟩ (.int .i64 x3)) := hOw5.then ((Only.refl (· = b) w5).set1 4 _) (fun k _ h => .inl h)
  have hOs2 : Only (fun k => k = b ∨ k = wb) (wa) ((w5.setCell ⟨b, 4, none⟩ (.int .i64 x3)).setCell ⟨b, 5, none⟩ (.int .i64 x4)) := hOw5.then (((Only.refl (· = b) w5).set1 4 _).set1 5 _) (fun k _ h => .inl h)
  refine wpAnyH_ready (rs := [9]) (by kernel_rfl) (by simp) ?_
  refine AllReadyH.cons rfl (fun K hK => ?_) AllReadyH.nil
  go_simp
  refine hK.out _ _ (HC.out _ hOs1) (fun hHeld => ?_)
  clear hK K
  try simp only [List.getElem_toArray, List.getElem_cons_zero, List.getElem_cons_succ, Act.put, List.setIfInBounds_toArray, List.set_cons_zero, List.set_cons_succ]
  refine wpAnyH_take (i := 10) (v := .pointer (some ⟨b, 2, none⟩)) rfl (by kernel_rfl) (by kernel_rfl) (by kernel_rfl) (fun _ _ _ h => h) (Or.inl ⟨by rfl, ?_⟩) hHeld ?_
  · intro W hSw
    go_simp
  try simp only [List.getElem_toArray, List.getElem_cons_zero, List.getElem_cons_succ, Act.put, List.setIfInBounds_toArray, List.set_cons_zero, List.set_cons_succ]
  refine wpAnyH_take (i := 11) (v := .pointer (some ⟨b, 2, none⟩)) rfl (by kernel_rfl) (by kernel_rfl) (by kernel_rfl) (fun _ _ _ h => h) (Or.inl ⟨by rfl, ?_⟩) hHeld ?_
  · intro W hSw
    go_simp
  try simp only [List.getElem_toArray, List.getElem_cons_zero, List.getElem_cons_succ, Act.put, List.setIfInBounds_toArray, List.set_cons_zero, List.set_cons_succ]
  refine wpAnyH_take (i := 12) (v := .pointer (some ⟨b, 5, none⟩)) rfl (by kernel_rfl) (by kernel_rfl) (by kernel_rfl) (fun _ _ _ h => h) (Or.inl ⟨by rfl, ?_⟩) hHeld ?_
  · intro W hSw
    go_simp
  try simp only [List.getElem_toArray, List.getElem_cons_zero, List.getElem_cons_succ, Act.put, List.setIfInBounds_toArray, List.set_cons_zero, List.set_cons_succ]
  refine wpAnyH_ready (rs := [13]) (by kernel_rfl) (by simp) ?_
  refine AllReadyH.cons rfl (fun K hK => ?_) AllReadyH.nil
  go_simp
  refine hK.out _ _ (HC.out _ hOs2) (fun hHeld => ?_)
  clear hK K
  refine wpAnyH_done (by kernel_rfl) ?_ _
  have hS6 : Only (· = b) w5 ((w5.setCell ⟨b, 4, none⟩ (.int .i64 x3)).setCell ⟨b, 5, none⟩ (.int .i64 x4)) := ((Only.refl _ _).set1 _ _).set1 _ _
  have hb6 := (hb5.set 4 (.int .i64 x3)).set 5 (.int .i64 x4)
  rw [rd_room, rd_budget] at hb6
  have hW6 := hW5.of hS6 (fun e => hbw e.symm) (fun e => hbr e.symm)
  have HF6 := Lib.hid (And.intro hb6 (And.intro hW6 hOs2))
  clear hb6 hW6 hOs1 hS6 hb5 hO35 hOw5 hO34 hOw4 hW4 hW5 hO5 k4 k5 g4 g5 hc3
  generalize ((w5.setCell ⟨b, 4, none⟩ (.int .i64 x3)).setCell ⟨b, 5, none⟩ (.int .i64 x4)) = w6 at *
  have hc6 := HC.out _ HF6.out.2.2
  go_wp2_with fail
  refine (HM.out _ _ _ _ HF6.out.2.1 h5).mono ?_
  rintro x w7 ⟨rfl, hW7, hO7⟩
  rw [show parseM p5.data.toList 0 9223372036854775807 = numE 9223372036854775807 p5 from rfl, ← HY.out.2.2.2.2] at hW7 ⊢
  have hb7 := hO7.blk HF6.out.1 hbw
  have k6 := hb7.cell 6 _ rfl
  have g6 := hb7.free 6
  have k9 := hb7.cell 9 _ rfl
  have g9 := hb7.free 9
  have hw5 := HW5.out
  have hS8 : Only (· = b) w7 ((w7.setCell ⟨b, 6, none⟩ (.int .u64 x5)).setCell ⟨b, 9, none⟩ (.bool true)) := ((Only.refl _ _).set1 _ _).set1 _ _
  have hb8 := (hb7.set 6 (.int .u64 x5)).set 9 (.bool true)
  rw [rd_seed, rd_ruled] at hb8
  have hW8 := hW7.of hS8 (fun e => hbw e.symm) (fun e => hbr e.symm)
  have hO8 : Only (fun k => k = b ∨ k = wb) wa ((w7.setCell ⟨b, 6, none⟩ (.int .u64 x5)).setCell ⟨b, 9, none⟩ (.bool true)) := (HF6.out.2.2.then hO7 (fun k _ h => .inr h)).then hS8 (fun k _ h => .inl h)
  have HF8 := Lib.hid (And.intro hb8 (And.intro hW8 hO8))
  clear hb8 hW8 hO8 hS8 hb7 hW7 hO7
  go_wp2_with fail
  go_end0
  obtain ⟨r1, r2, r3⟩ := HF8.out
  refine ⟨rfl, r1, ?_, HO0.out.of_no.trans r3⟩
  rw [← HY.out.2.2.1, ← HY.out.2.2.2.1, ← HY.out.2.2.2.2] at *
  exact r2
end Go.Proofs.Ytlilhdkaaendlaa

namespace Go.Proofs.Ytlilhdkaaendlaa
open Go.RowKit

def fnV (k b : Nat) : Value := match k with
  | 1 => .func (.func 84) #[.pointer (some ⟨b, 0, none⟩)] #[]
  | 2 => .func (.func 85) #[.pointer (some ⟨b, 0, none⟩)] #[]
  | 3 => .func (.func 86) #[.pointer (some ⟨b, 0, none⟩)] #[]
  | _ => .func (.func 87) #[] #[]
theorem tl_yes {p : ByteArray} {l : List UInt8} (h : p.data.toList = l) : (p.toList == l) = true := by rw [beq_iff_eq, ByteArray.toList_eq, h]
theorem tl_no {p : ByteArray} {l : List UInt8} (h : ¬ p.data.toList = l) : (p.toList == l) = false := by rw [beq_eq_false_iff_ne, ByteArray.toList_eq]; exact h
set_option maxRecDepth 100000 in
set_option maxHeartbeats 1600000 in
theorem wants_c (b : Nat) (st : RM) (pv lv v : Value) (p : ByteArray) (r : List ByteArray) (w : World) (hb : Blk w b (rdA st pv lv) 80) (hv : Sees w v (txs (p :: r))) :
    Calls Try.prog 61 #[.pointer (some ⟨b, 0, none⟩), v] w fun x w' => x = .returned (fnV (wantK st.had p r) b) ∧ w = w' := by
  obtain ⟨a0, cap, rfl, hcap, hf⟩ := hv.form
  obtain ⟨rb, o, rfl, hrb, hcell⟩ := hf (by simp [txs])
  have hl : (txs (p :: r)).length = r.length + 1 := by simp [txs]
  rw [hl]
  have g0 := hcell 0 (.string p) (by simp [txs])
  rw [Nat.add_zero] at g0
  have c8 : w.cell? ⟨b, 8, none⟩ = some (.bool st.had) := hb.cell 8 _ rfl
  unfold wantK
  obtain ⟨had, hhad⟩ : ∃ x, x = st.had := ⟨_, rfl⟩
  rw [← hhad] at c8 ⊢
  clear hcell hf hv hl hb hhad
  cases had with
  | false =>
    rw [if_pos rfl]
    by_cases h1 : p.data.toList = [114, 101, 112, 108, 105, 99, 97, 115]
    · have q1 := tl_yes h1
      by_cases h2 : r.length = 1
      · have q2 : ((r.length : Int) + 1 == 2) = true := by rw [beq_iff_eq]; omega
        rw [if_pos ⟨h1, h2⟩]
        clear h1 h2
        go_enter Try.func61, Try.ntmps61
        go_wp2_with fail
        go_ret
        exact ⟨rfl, rfl⟩
      · have q2 : ((r.length : Int) + 1 == 2) = false := by rw [beq_eq_false_iff_ne]; omega
        rw [if_neg (fun h => h2 h.2)]
        clear h1 h2
        go_enter Try.func61, Try.ntmps61
        go_wp2_with fail
        go_ret
        exact ⟨rfl, rfl⟩
    · have q1 := tl_no h1
      rw [if_neg (fun h => h1 h.1)]
      clear h1
      go_enter Try.func61, Try.ntmps61
      go_wp2_with fail
      go_ret
      exact ⟨rfl, rfl⟩
  | true =>
    rw [if_neg (by decide)]
    by_cases h1 : p.data.toList = [106, 111, 105, 110]
    · have q1 := tl_yes h1
      have q3 : (p.toList == [114, 117, 108, 101, 115]) = false := tl_no (by rw [h1]; decide)
      by_cases h2 : r.length = 2
      · have q2 : ((r.length : Int) + 1 == 3) = true := by rw [beq_iff_eq]; omega
        rw [if_pos ⟨h1, h2⟩]
        clear h1 h2 q3
        go_enter Try.func61, Try.ntmps61
        go_wp2_with fail
        go_ret
        exact ⟨rfl, rfl⟩
      · have q2 : ((r.length : Int) + 1 == 3) = false := by rw [beq_eq_false_iff_ne]; omega
        rw [if_neg (fun h => h2 h.2), if_neg (fun h => by rw [h1] at h; exact absurd h.1 (by decide))]
        clear h1 h2
        go_enter Try.func61, Try.ntmps61
        go_wp2_with fail
        go_ret
        exact ⟨rfl, rfl⟩
    · have q1 := tl_no h1
      rw [if_neg (fun h => h1 h.1)]
      clear h1
      by_cases h1 : p.data.toList = [114, 117, 108, 101, 115]
      · have q3 := tl_yes h1
        by_cases h2 : r.length = 5
        · have q2 : ((r.length : Int) + 1 == 6) = true := by rw [beq_iff_eq]; omega
          rw [if_pos ⟨h1, h2⟩]
          clear h1 h2
          go_enter Try.func61, Try.ntmps61
          go_wp2_with fail
          go_ret
          exact ⟨rfl, rfl⟩
        · have q2 : ((r.length : Int) + 1 == 6) = false := by rw [beq_eq_false_iff_ne]; omega
          rw [if_neg (fun h => h2 h.2)]
          clear h1 h2
          go_enter Try.func61, Try.ntmps61
          go_wp2_with fail
          go_ret
          exact ⟨rfl, rfl⟩
      · have q3 := tl_no h1
        rw [if_neg (fun h => h1 h.1)]
        clear h1
        go_enter Try.func61, Try.ntmps61
        go_wp2_with fail
        go_ret
        exact ⟨rfl, rfl⟩
/-- The state of a script that is read. -/
def St (w : World) (base b : Nat) (st : RM) : Prop := ∃ (pv lv : Value) (es : List (Ev × Value)), Blk w b (rdA st pv lv) 80 ∧ Rows44 w base 90 55 pv lv st.su.pairs es ∧ es.map Prod.fst = st.evs
theorem St.only {S : Nat → Prop} {w w' : World} {base b : Nat} {st : RM} (h : St w base b st) (ho : Only S w w') (hb : ¬ S b) (hs : ∀ k, base ≤ k → k < w.heap.size → ¬ S k) : St w' base b st := by
  obtain ⟨pv, lv, es, h1, h2, h3⟩ := h
  exact ⟨pv, lv, es, ho.blk h1 hb, h2.only ho hs, h3⟩
theorem WAt.fact {w : World} {b rb : Nat} {e : Int} {l : List ByteArray} (h : WAt w b rb e l) : w.cell? ⟨b, 0, none⟩ = some (.int .i64 e) := by
  obtain ⟨v, q1, -⟩ := h
  exact q1.cell 0 _ rfl
/-- What a line does to the state: by its kind. -/
theorem stepS_of {st : RM} {p : ByteArray} {r : List ByteArray} : (wantK st.had p r = 0 ∧ stepS st p r = (st, 3)) ∨ (∃ a, wantK st.had p r = 1 ∧ r = [a] ∧ stepS st p r = repM st a) ∨
    (∃ a c, wantK st.had p r = 2 ∧ r = [a, c] ∧ stepS st p r = joinM st a c) ∨ (∃ a c d e f, wantK st.had p r = 3 ∧ r = [a, c, d, e, f] ∧ stepS st p r = rulesM st a c d e f) := by
  unfold stepS
  rcases wantK_cases st.had p r with h | ⟨h, -, -, hl⟩ | ⟨h, -, -, hl⟩ | ⟨h, -, -, hl⟩
  · rw [h]; exact .inl ⟨rfl, rfl⟩
  · obtain ⟨a, rfl⟩ := one_len hl
    rw [h]; exact .inr (.inl ⟨a, rfl, rfl, rfl⟩)
  · obtain ⟨a, c, rfl⟩ := two_len hl
    rw [h]; exact .inr (.inr (.inl ⟨a, c, rfl, rfl, rfl⟩))
  · match r, hl with
    | [a, c, d, e, f], _ => rw [h]; exact .inr (.inr (.inr ⟨a, c, d, e, f, rfl, rfl, rfl⟩))
set_option maxRecDepth 100000 in
set_option maxHeartbeats 1600000 in
/-- A line of the setup. -/
theorem lineS_c (w0 w : World) (base b rb cap : Nat) (st : RM) (s : ByteArray) (p : ByteArray) (r : List ByteArray) (hS : St w0 base b st) (hr : st.ruled = false) (hO : Only No w0 w) (hbb : b < base) (hbs : base ≤ w0.heap.size)
    (hv : Sees w (.slice (some ⟨rb, 0, none⟩) (r.length + 1) cap) (txs (p :: r))) (hcap : r.length + 1 ≤ cap) (hrb0 : w0.heap.size ≤ rb) (hrb : rb < w.heap.size) (hz : ∀ x ∈ r, x.size ≤ 900000000) (hn : st.su.pairs.length ≤ 1000000000) :
    Calls Try.prog 31 #[.pointer (some ⟨b, 0, none⟩), .string s, .slice (some ⟨rb, 0, none⟩) (r.length + 1) cap] w fun x w' => x = .returned (.int .i64 (stepS st p r).2) ∧ St w' base b (stepS st p r).1 ∧ Only (fun k => k = b ∨ base ≤ k) w0 w' := by
  obtain ⟨pv, lv, es, hb0, hR0, hes⟩ := hS
  have hbw := hO.blk hb0 id
  have c9 : w.cell? ⟨b, 9, none⟩ = some (.bool st.ruled) := hbw.cell 9 _ rfl
  rw [hr] at c9
  have hzw := hO.size
  have hrne : b ≠ rb := by omega
  obtain ⟨a', hsl, ha', ha2⟩ := cut1 rb 0 r.length cap hcap
  have hWT := cutW hv hcap hrb ha' ha2
  have hOa : Only No w (w.alloc (.cells #[.int .i64 0, .slice a' r.length (cap - 1)] 100)) := (Only.refl _ _).alloc _
  have hsz : w.heap.size < (w.alloc (.cells #[.int .i64 0, .slice a' r.length (cap - 1)] 100)).heap.size := by simp
  have HW := Lib.hid (wants_c b st pv lv _ p r _ (hOa.blk hbw id) (hv.no hOa))
  have HF := Lib.hid (And.intro hb0 (And.intro hR0 (And.intro hes (And.intro (hO.trans hOa) (And.intro (hOa.blk hbw id) (And.intro hWT hsz))))))
  clear hb0 hR0 hes hWT hbw hv ha' ha2 hr hOa hsz
  rcases stepS_of (st := st) (p := p) (r := r) with ⟨hk, hs⟩ | ⟨a, hk, hrl, hs⟩ | ⟨a, c, hk, hrl, hs⟩ | ⟨a, c, d, e, f, hk, hrl, hs⟩
  · rw [hs]
    rw [hk] at HW
    clear hs hk hz hn
    go_enter Try.func31, Try.ntmps31
    go_wp2_with fail
    generalize (w.alloc (.cells #[.int .i64 0, .slice a' r.length (cap - 1)] 100)) = w1 at *
    refine HW.out.mono ?_
    rintro x w2 ⟨rfl, rfl⟩
    obtain ⟨q1, q2, q3, q4, q5, q6, q7⟩ := HF.out
    have hC := Lib.hid (wrong_c w.heap.size rb 0 r w1 q6)
    clear q1 q2 q3 q4 q5 q6 q7
    unfold fnV
    go_wp2_with fail
    refine hC.out.mono ?_
    rintro x w3 ⟨rfl, hW3, hO3⟩
    have ce := hW3.fact
    go_wp2_with fail
    go_ret
    obtain ⟨q1, q2, q3, q4, q5, q6, q7⟩ := HF.out
    have hO5 : Only No w0 w3 := q4.then hO3 (fun k hk e => by have e' : k = w.heap.size := e; omega)
    exact ⟨rfl, ⟨pv, lv, es, hO5.blk q1 id, q2.only hO5 (fun _ _ _ h => h), q3⟩, hO5.of_no⟩
  all_goals
    rw [hs]
    rw [hk] at HW
    have HZ := Lib.hid hz
    have HN := Lib.hid hn
    have HL := Lib.hid hrl
    clear hs hk hz hn hrl
    go_enter Try.func31, Try.ntmps31
    go_wp2_with fail
  · generalize (w.alloc (.cells #[.int .i64 0, .slice a' r.length (cap - 1)] 100)) = w1 at *
    refine HW.out.mono ?_
    rintro x w2 ⟨rfl, rfl⟩
    obtain ⟨q1, q2, q3, q4, q5, q6, q7⟩ := HF.out
    rw [HL.out] at q6
    have hC := Lib.hid (replicas_c b w.heap.size rb st pv lv a w1 q5 q6 (by omega) hrne (by have := HZ.out a (by rw [HL.out]; simp); omega))
    clear q1 q2 q3 q4 q5 q6 q7
    unfold fnV
    go_wp2_with fail
    refine hC.out.mono ?_
    rintro x w3 ⟨rfl, hb3, hW3, hO3⟩
    have ce := hW3.fact
    go_wp2_with fail
    go_ret
    obtain ⟨q1, q2, q3, q4, q5, q6, q7⟩ := HF.out
    have hO5 : Only (· = b) w0 w3 := (q4.of_no).then hO3 (fun k hk e => by rcases e with e | e; exact e; exfalso; omega)
    exact ⟨rfl, ⟨pv, lv, es, hb3, q2.only hO5 (fun k hk _ e => by have e' : k = b := e; omega), q3⟩, hO5.mono (fun k _ h => .inl h)⟩
  · generalize (w.alloc (.cells #[.int .i64 0, .slice a' r.length (cap - 1)] 100)) = w1 at *
    refine HW.out.mono ?_
    rintro x w2 ⟨rfl, rfl⟩
    obtain ⟨q1, q2, q3, q4, q5, q6, q7⟩ := HF.out
    rw [HL.out] at q6
    have hC := Lib.hid (join_c b w.heap.size rb base st pv lv es a c w0 w1 q2 q4 hbb hbs hzw hrb0 q5 q6 (by have := HZ.out a (by rw [HL.out]; simp); omega) (by have := HZ.out c (by rw [HL.out]; simp); omega) HN.out)
    clear q1 q2 q3 q4 q5 q6 q7
    unfold fnV
    go_wp2_with fail
    refine hC.out.mono ?_
    rintro x w3 ⟨rfl, pv', hb3, hR3, hW3, hO3⟩
    have ce := hW3.fact
    go_wp2_with fail
    go_ret
    exact ⟨rfl, ⟨pv', lv, es, hb3, hR3, HF.out.2.2.1⟩, hO3⟩
  · generalize (w.alloc (.cells #[.int .i64 0, .slice a' r.length (cap - 1)] 100)) = w1 at *
    refine HW.out.mono ?_
    rintro x w2 ⟨rfl, rfl⟩
    obtain ⟨q1, q2, q3, q4, q5, q6, q7⟩ := HF.out
    rw [HL.out] at q6
    have hC := Lib.hid (rules_c b w.heap.size rb st pv lv a c d e f w1 q5 q6 (by omega) hrne (by have := HZ.out d (by rw [HL.out]; simp); omega) (by have := HZ.out e (by rw [HL.out]; simp); omega) (by have := HZ.out f (by rw [HL.out]; simp); omega))
    clear q1 q2 q3 q4 q5 q6 q7
    unfold fnV
    go_wp2_with fail
    refine hC.out.mono ?_
    rintro x w3 ⟨rfl, hb3, hW3, hO3⟩
    have ce := hW3.fact
    go_wp2_with fail
    go_ret
    obtain ⟨q1, q2, q3, q4, q5, q6, q7⟩ := HF.out
    have hO5 : Only (· = b) w0 w3 := (q4.of_no).then hO3 (fun k hk e => by rcases e with e | e; exact e; exfalso; omega)
    exact ⟨rfl, ⟨pv, lv, es, hb3, q2.only hO5 (fun k hk _ e => by have e' : k = b := e; omega), q3⟩, hO5.mono (fun k _ h => .inl h)⟩
end Go.Proofs.Ytlilhdkaaendlaa

namespace Go.Proofs.Ytlilhdkaaendlaa
open Go.RowKit

theorem rd_evs' (st : RM) (pv lv lv' : Value) (e : Ev) : (rdA st pv lv).setIfInBounds 7 lv' = rdA { st with evs := st.evs ++ [e] } pv lv' := rfl
theorem info_wev : (Try.prog.info? 55).map (fun i => (i.zero, i.size, i.bytes)) = some (some (.agg (evA {} (.slice none 0 0))), 25, 96) := by kernel_rfl
theorem evL_len {e : Ev} (h : e.Ok) (dv : Value) : (evL e dv).length = 25 := evA_size h dv
theorem one_evL (e : Ev) {dv : Value} (h : dv.oneCell' = true) : ∀ u ∈ evL e dv, u.oneCell' = true := fun u hu => by
  have := one_evA e h
  rw [Array.all_eq_true_iff_forall_mem] at this
  exact this u (by simpa [evA] using hu)
theorem fill_ev {e : Ev} (h : e.Ok) (dv : Value) (k : Nat) (hk : k = 25) : Instr.fill (fun i => some (i * k, k)) ((Array.range (1 * k)).map ((Value.agg (evA {} (.slice none 0 0))).cells[· % (Value.agg (evA {} (.slice none 0 0))).cells.size]!)) [(0, .agg (evA e dv))] = some (evL e dv).toArray := by
  subst hk
  obtain ⟨a, b, c, d, f, g, i, j, hi⟩ := eight h.1
  obtain ⟨a2, b2, c2, d2, f2, g2, i2, j2, ht⟩ := eight h.2
  have h0 : (Array.range (1 * 25)).map ((Value.agg (evA {} (.slice none 0 0))).cells[· % (Value.agg (evA {} (.slice none 0 0))).cells.size]!) = zero25 := by kernel_rfl
  rw [h0]
  simp [evA, evL, hi, ht, bys, Instr.fill, Value.cells]
set_option maxRecDepth 100000 in
set_option maxHeartbeats 1600000 in
theorem lineE_c (w0 w : World) (base b : Nat) (st : RM) (s : ByteArray) (v : Value) (hS : St w0 base b st) (hr : st.ruled = true) (hO : Only No w0 w) (hbb : b < base) (hbs : base ≤ w0.heap.size) (hs : s.size ≤ 900000000) (hn : st.evs.length ≤ 1000000000) :
    Calls Try.prog 31 #[.pointer (some ⟨b, 0, none⟩), .string s, v] w fun x w' => x = .returned (.int .i64 (evM (lineW s)).2) ∧ St w' base b { st with evs := st.evs ++ [(evM (lineW s)).1] } ∧ Only (fun k => k = b ∨ base ≤ k) w0 w' := by
  obtain ⟨pv, lv, es, hb0, hR0, hes⟩ := hS
  have hbw := hO.blk hb0 id
  have c9 : w.cell? ⟨b, 9, none⟩ = some (.bool st.ruled) := hbw.cell 9 _ rfl
  rw [hr] at c9
  have HE := fun W : World => Lib.hid (event_c s W hs)
  have hok := evM_ok (lineW s)
  obtain ⟨x, er, hev⟩ : ∃ x er, (x, er) = evM (lineW s) := ⟨_, _, rfl⟩
  rw [← hev] at HE hok ⊢
  simp only at hok
  obtain ⟨i0, hi, hz0, hz1, hz2⟩ := info_parts info_wev
  have hel : es.length = st.evs.length := by rw [← hes, List.length_map]
  have hn' : es.length ≤ 1000000000 := by omega
  have HF := Lib.hid (And.intro hb0 (And.intro hR0 (And.intro hes hO)))
  obtain ⟨a9, c, rfl⟩ := bun_form hR0.bun 1 rfl
  clear hev hr hb0 hR0 hes hbw hel hO hn
  go_enter Try.func31, Try.ntmps31
  go_wp2_with fail
  refine (HE _).out.mono ?_
  rintro y w1 ⟨dv, rfl, hdv, hdf, hO1⟩
  simp only at hdv
  have hone : dv.oneCell' = true := by obtain ⟨pa, pc, hq, -⟩ := hdv.form; rw [hq]; rfl
  have hbn := Lib.hid (Blk.new w1 zero25 55)
  have hO2 : Only No w1 ((w1.alloc (.cells zero25 55)).setRow w1.heap.size (evA x dv)) := only_setRow ((Only.refl _ _).alloc _) _ _ (fun hk => absurd hk (Nat.lt_irrefl _))
  have hb2 : Blk ((w1.alloc (.cells zero25 55)).setRow w1.heap.size (evA x dv)) w1.heap.size (evA x dv) 55 := blk_setRow hbn.out _
  have hz1' := hO1.size
  have hsz2 : ((w1.alloc (.cells zero25 55)).setRow w1.heap.size (evA x dv)).heap.size = w1.heap.size + 1 := by simp
  have hO02 : Only No w0 ((w1.alloc (.cells zero25 55)).setRow w1.heap.size (evA x dv)) := (HF.out.2.2.2.trans hO1).trans hO2
  have hdv2 := hdv.no hO2
  go_wp2_with (refine wpList_store_row rfl 55 (.tmp 7) (.tmp 17) rfl w1.heap.size (evA x dv) rfl rfl _ _ hbn.out (info_evA hok _) (by rw [evA_size hok]; rfl) (one_evA _ hone) ?_)
  have HG := Lib.hid (And.intro hb2 (And.intro hO02 (And.intro hdv2 (And.intro hsz2 (And.intro hdf hz1')))))
  clear hb2 hO2 hO1 hO02 hdv2 hdv hsz2 hdf hz1'
  generalize (w1.alloc (.cells zero25 55)).setRow w1.heap.size (evA x dv) = w2 at *
  obtain ⟨hb2, hO02, hdv2, hsz2, hdf, hz1'⟩ := HG.out
  have hzw := HF.out.2.2.2.size
  have hR2 := HF.out.2.1.only hO02 (fun _ _ _ h => h)
  have hbr := hO02.blk HF.out.1 id
  have c7 : w2.cell? ⟨b, 7, none⟩ = some (.slice a9 es.length c) := hbr.cell 7 _ rfl
  have f7 := hbr.free 7
  have hz2' := hO02.size
  have hne : b ≠ w1.heap.size := by omega
  have hdb : OwnD w2 base pv (.slice a9 es.length c) (x, dv) := fun hp k hk => by
    have h1 := hdf k hk
    have h2 := hdv2.lt (by rw [bys_len]; exact hp) k hk
    refine ⟨by omega, h2, fun e => ?_, fun e => ?_⟩
    · have := (HF.out.2.1.bun.owns 0 _ rfl).lt e; omega
    · have := (HF.out.2.1.bun.owns 1 _ rfl).lt e; omega
  have HB := Lib.hid (And.intro hR2 (And.intro hbr (And.intro hdb hdv2)))
  clear hdb hdv2 hdf hR2 hb2 hsz2
  have hb2 := HG.out.1
  refine wp_region_held_drew (S := fun w' => Blk w' w1.heap.size (evA x dv) 55) (by kernel_rfl) (by exact hb2) (fun hHeld => ?_)
  refine wpAnyH_take (i := 0) (v := .pointer (some ⟨b, 0, none⟩)) rfl (by kernel_rfl) (by kernel_rfl) (by kernel_rfl) (fun _ _ _ h => h) (Or.inl ⟨by rfl, ?_⟩) hHeld ?_
  · intro W hSw
    go_simp
  try simp only [List.getElem_toArray, List.getElem_cons_zero, Act.put, List.setIfInBounds_toArray, List.set_cons_zero, List.set_cons_succ]
  refine wpAnyH_take (i := 1) (v := .pointer (some ⟨b, 0, none⟩)) rfl (by kernel_rfl) (by kernel_rfl) (by kernel_rfl) (fun _ _ _ h => h) (Or.inl ⟨by rfl, ?_⟩) hHeld ?_
  · intro W hSw
    go_simp
  try simp only [List.getElem_toArray, List.getElem_cons_zero, List.getElem_cons_succ, Act.put, List.setIfInBounds_toArray, List.set_cons_zero, List.set_cons_succ]
  refine wpAnyH_take (i := 2) (v := .pointer (some ⟨b, 0, none⟩)) rfl (by kernel_rfl) (by kernel_rfl) (by kernel_rfl) (fun _ _ _ h => h) (Or.inl ⟨by rfl, ?_⟩) hHeld ?_
  · intro W hSw
    go_simp
  try simp only [List.getElem_toArray, List.getElem_cons_zero, List.getElem_cons_succ, Act.put, List.setIfInBounds_toArray, List.set_cons_zero, List.set_cons_succ]
  refine wpAnyH_take (i := 3) (v := .pointer (some ⟨b, 7, none⟩)) rfl (by kernel_rfl) (by kernel_rfl) (by kernel_rfl) (fun _ _ _ h => h) (Or.inl ⟨by rfl, ?_⟩) hHeld ?_
  · intro W hSw
    go_simp
  try simp only [List.getElem_toArray, List.getElem_cons_zero, List.getElem_cons_succ, Act.put, List.setIfInBounds_toArray, List.set_cons_zero, List.set_cons_succ]
  refine wpAnyH_take (i := 5) (v := .agg (evA x dv)) rfl (by kernel_rfl) (by kernel_rfl) (by kernel_rfl) (fun _ _ _ h => h) (yieldsIf_row (by rfl) 55 (.tmp 7) rfl w1.heap.size rfl 55 (evA x dv) _ (fun w' h => h) Try.underlying55 rfl (info_evA hok _)) hHeld ?_
  try simp only [List.getElem_toArray, List.getElem_cons_zero, List.getElem_cons_succ, Act.put, List.setIfInBounds_toArray, List.set_cons_zero, List.set_cons_succ]
  refine wpAnyH_ready (rs := [4, 6]) (by kernel_rfl) (by simp) ?_
  refine AllReadyH.cons rfl (fun K hK => ?_) (AllReadyH.cons rfl (fun K hK => ?_) AllReadyH.nil)
  · go_simp
    refine hK.out _ _ hHeld (fun hHeld => ?_)
    clear hK K
    try simp only [List.getElem_toArray, List.getElem_cons_zero, List.getElem_cons_succ, Act.put, List.setIfInBounds_toArray, List.set_cons_zero, List.set_cons_succ]
    refine wpAnyH_ready (rs := [6]) (by kernel_rfl) (by simp) ?_
    refine AllReadyH.cons rfl (fun K hK => ?_) AllReadyH.nil
    have hOa : Only No w2 (w2.alloc (.cells (evL x dv).toArray 55)) := (Only.refl _ _).alloc _
    rw [if_pos (by rfl)]
    refine wp_buildSlice 31 55 1 #[(0, .tmp 24)] (by rfl) (evL x dv).toArray i0 (.agg (evA {} (.slice none 0 0))) Try.underlying31 hi hz0 (by rw [hz1]; decide) (by rw [hz1]; decide) (by rw [hz1]; exact (congrArg (Instr.fill _ _) (by simp only [List.map_toArray, List.map_cons, List.map_nil]; rfl)).trans (fill_ev hok dv 25 rfl)) ?_
    refine hK.out _ _ (by exact hOa.blk HG.out.1 id) (fun hHeld => ?_)
    clear hK K
    try simp only [List.getElem_toArray, List.getElem_cons_zero, List.getElem_cons_succ, Act.put, List.setIfInBounds_toArray, List.set_cons_zero, List.set_cons_succ]
    refine wpAnyH_ready (rs := [7]) (by kernel_rfl) (by simp) ?_
    refine AllReadyH.cons rfl (fun K hK => ?_) AllReadyH.nil
    refine step_append2 1 (by rfl) (.tmp 23) (.tmp 25) 31 (by rfl) base 55 i0 (.agg (evA {} (.slice none 0 0))) 25 96 Try.underlying31 hi hz0 hz1 hz2 rfl (by decide) _ HB.out.1.bun 1 _ _ _ rfl (by rfl) (evL x dv) _ w2.heap.size rfl (by rfl) (evL_len hok _) (one_evL _ hone) (by unfold maxLen; omega) (by omega) (by omega) (by rfl) ?_
    intro g cap w3 hBn hOn hat
    obtain ⟨hR2, hbr, hdb, hdv2⟩ := HB.out
    have hown : ∀ k, (Value.slice a9 es.length c).ownBlock = some k → base ≤ k ∧ k < w0.heap.size := fun k hk => (HF.out.2.1.bun.owns 1 _ rfl).lt hk
    have hb3 := hOn.blk HG.out.1 (fun e => by have := hown _ e; omega)
    have hbr3 := hOn.blk hbr (fun e => by have := hown _ e; omega)
    refine hK.out _ _ hb3 (fun hHeld => ?_)
    clear hK K
    try simp only [List.getElem_toArray, List.getElem_cons_zero, List.getElem_cons_succ, Act.put, List.setIfInBounds_toArray, List.set_cons_zero, List.set_cons_succ]
    refine wpAnyH_take (i := 8) (v := .pointer (some ⟨b, 0, none⟩)) rfl (by kernel_rfl) (by kernel_rfl) (by kernel_rfl) (fun _ _ _ h => h) (Or.inl ⟨by rfl, ?_⟩) hHeld ?_
    · intro W hSw
      go_simp
    try simp only [List.getElem_toArray, List.getElem_cons_zero, List.getElem_cons_succ, Act.put, List.setIfInBounds_toArray, List.set_cons_zero, List.set_cons_succ]
    refine wpAnyH_take (i := 9) (v := .pointer (some ⟨b, 7, none⟩)) rfl (by kernel_rfl) (by kernel_rfl) (by kernel_rfl) (fun _ _ _ h => h) (Or.inl ⟨by rfl, ?_⟩) hHeld ?_
    · intro W hSw
      go_simp
    try simp only [List.getElem_toArray, List.getElem_cons_zero, List.getElem_cons_succ, Act.put, List.setIfInBounds_toArray, List.set_cons_zero, List.set_cons_succ]
    refine wpAnyH_ready (rs := [10]) (by kernel_rfl) (by simp) ?_
    refine AllReadyH.cons rfl (fun K hK => ?_) AllReadyH.nil
    have c73 : w3.cell? ⟨b, 7, none⟩ = some (.slice a9 es.length c) := hbr3.cell 7 _ rfl
    have f73 := hbr3.free 7
    go_simp
    have hS4 : Only (· = b) w3 (w3.setCell ⟨b, 7, none⟩ (.slice (some ⟨g, 0, none⟩) (es.length + 1) cap)) := (Only.refl _ _).set1 7 _
    refine hK.out _ _ (hS4.blk hb3 (fun e => hne e.symm)) (fun hHeld => ?_)
    clear hK K
    refine wpAnyH_done (by kernel_rfl) ?_ _
    go_wp2_with fail
    go_ret
    have hR3 := hR2.event (e := x) (dv := dv) (lv' := .slice (some ⟨g, 0, none⟩) (es.length + 1) cap) ⟨g, cap, rfl, hat⟩ hok hdv2 hdb (by simpa [List.set] using hBn) hOn
    have hb4 := hbr3.set 7 (.slice (some ⟨g, 0, none⟩) (es.length + 1) cap)
    rw [rd_evs' st pv _ _ x] at hb4
    refine ⟨rfl, ⟨pv, _, es ++ [(x, dv)], hb4, hR3.only hS4 (fun k hk _ e => by have e' : k = b := e; omega), by rw [List.map_append, HF.out.2.2.1]; rfl⟩, ?_⟩
    exact ((HG.out.2.1.mono (T := fun k => k = b ∨ base ≤ k) (fun k _ h => h.elim)).then hOn (fun k hk e => .inr (hown k e).1)).then hS4 (fun k _ e => .inl e)
  · have hOa : Only No w2 (w2.alloc (.cells (evL x dv).toArray 55)) := (Only.refl _ _).alloc _
    have c7a : (w2.alloc (.cells (evL x dv).toArray 55)).cell? ⟨b, 7, none⟩ = some (.slice a9 es.length c) := (hOa.blk HB.out.2.1 id).cell 7 _ rfl
    rw [if_pos (by rfl)]
    refine wp_buildSlice 31 55 1 #[(0, .tmp 24)] (by rfl) (evL x dv).toArray i0 (.agg (evA {} (.slice none 0 0))) Try.underlying31 hi hz0 (by rw [hz1]; decide) (by rw [hz1]; decide) (by rw [hz1]; exact (congrArg (Instr.fill _ _) (by simp only [List.map_toArray, List.map_cons, List.map_nil]; rfl)).trans (fill_ev hok dv 25 rfl)) ?_
    refine hK.out _ _ (by exact hOa.blk HG.out.1 id) (fun hHeld => ?_)
    clear hK K
    try simp only [List.getElem_toArray, List.getElem_cons_zero, List.getElem_cons_succ, Act.put, List.setIfInBounds_toArray, List.set_cons_zero, List.set_cons_succ]
    refine wpAnyH_ready (rs := [4]) (by kernel_rfl) (by simp) ?_
    refine AllReadyH.cons rfl (fun K hK => ?_) AllReadyH.nil
    go_simp
    refine hK.out _ _ hHeld (fun hHeld => ?_)
    clear hK K
    try simp only [List.getElem_toArray, List.getElem_cons_zero, List.getElem_cons_succ, Act.put, List.setIfInBounds_toArray, List.set_cons_zero, List.set_cons_succ]
    refine wpAnyH_ready (rs := [7]) (by kernel_rfl) (by simp) ?_
    refine AllReadyH.cons rfl (fun K hK => ?_) AllReadyH.nil
    refine step_append2 1 (by rfl) (.tmp 23) (.tmp 25) 31 (by rfl) base 55 i0 (.agg (evA {} (.slice none 0 0))) 25 96 Try.underlying31 hi hz0 hz1 hz2 rfl (by decide) _ HB.out.1.bun 1 _ _ _ rfl (by rfl) (evL x dv) _ w2.heap.size rfl (by rfl) (evL_len hok _) (one_evL _ hone) (by unfold maxLen; omega) (by omega) (by omega) (by rfl) ?_
    intro g cap w3 hBn hOn hat
    obtain ⟨hR2, hbr, hdb, hdv2⟩ := HB.out
    have hown : ∀ k, (Value.slice a9 es.length c).ownBlock = some k → base ≤ k ∧ k < w0.heap.size := fun k hk => (HF.out.2.1.bun.owns 1 _ rfl).lt hk
    have hb3 := hOn.blk HG.out.1 (fun e => by have := hown _ e; omega)
    have hbr3 := hOn.blk hbr (fun e => by have := hown _ e; omega)
    refine hK.out _ _ hb3 (fun hHeld => ?_)
    clear hK K
    try simp only [List.getElem_toArray, List.getElem_cons_zero, List.getElem_cons_succ, Act.put, List.setIfInBounds_toArray, List.set_cons_zero, List.set_cons_succ]
    refine wpAnyH_take (i := 8) (v := .pointer (some ⟨b, 0, none⟩)) rfl (by kernel_rfl) (by kernel_rfl) (by kernel_rfl) (fun _ _ _ h => h) (Or.inl ⟨by rfl, ?_⟩) hHeld ?_
    · intro W hSw
      go_simp
    try simp only [List.getElem_toArray, List.getElem_cons_zero, List.getElem_cons_succ, Act.put, List.setIfInBounds_toArray, List.set_cons_zero, List.set_cons_succ]
    refine wpAnyH_take (i := 9) (v := .pointer (some ⟨b, 7, none⟩)) rfl (by kernel_rfl) (by kernel_rfl) (by kernel_rfl) (fun _ _ _ h => h) (Or.inl ⟨by rfl, ?_⟩) hHeld ?_
    · intro W hSw
      go_simp
    try simp only [List.getElem_toArray, List.getElem_cons_zero, List.getElem_cons_succ, Act.put, List.setIfInBounds_toArray, List.set_cons_zero, List.set_cons_succ]
    refine wpAnyH_ready (rs := [10]) (by kernel_rfl) (by simp) ?_
    refine AllReadyH.cons rfl (fun K hK => ?_) AllReadyH.nil
    have c73 : w3.cell? ⟨b, 7, none⟩ = some (.slice a9 es.length c) := hbr3.cell 7 _ rfl
    have f73 := hbr3.free 7
    go_simp
    have hS4 : Only (· = b) w3 (w3.setCell ⟨b, 7, none⟩ (.slice (some ⟨g, 0, none⟩) (es.length + 1) cap)) := (Only.refl _ _).set1 7 _
    refine hK.out _ _ (hS4.blk hb3 (fun e => hne e.symm)) (fun hHeld => ?_)
    clear hK K
    refine wpAnyH_done (by kernel_rfl) ?_ _
    go_wp2_with fail
    go_ret
    have hR3 := hR2.event (e := x) (dv := dv) (lv' := .slice (some ⟨g, 0, none⟩) (es.length + 1) cap) ⟨g, cap, rfl, hat⟩ hok hdv2 hdb (by simpa [List.set] using hBn) hOn
    have hb4 := hbr3.set 7 (.slice (some ⟨g, 0, none⟩) (es.length + 1) cap)
    rw [rd_evs' st pv _ _ x] at hb4
    refine ⟨rfl, ⟨pv, _, es ++ [(x, dv)], hb4, hR3.only hS4 (fun k hk _ e => by have e' : k = b := e; omega), by rw [List.map_append, HF.out.2.2.1]; rfl⟩, ?_⟩
    exact ((HG.out.2.1.mono (T := fun k => k = b ∨ base ≤ k) (fun k _ h => h.elim)).then hOn (fun k hk e => .inr (hown k e).1)).then hS4 (fun k _ e => .inl e)
end Go.Proofs.Ytlilhdkaaendlaa
