/- Events are alike: the program's word and the document's (printed by wip/tools/alikes.py). No statement is proved here. -/
import Derived.Test.YtlilhdkaaendlaaSame44
import Derived.Test.YtlilhdkaaendlaaNameEq
import Derived.Deep.MidRow
namespace Go.Proofs.Ytlilhdkaaendlaa
open Go.RowKit

def opEq (a b : Ev) : Bool := decide (a.okind = b.okind) && decide (a.cart = b.cart) && decide (a.item = b.item) && decide (a.onN = b.onN) && decide (a.text = b.text)
def alikeB (a b : Ev) : Bool := decide (a.kind = b.kind) && decide (a.rep = b.rep) && decide (a.dest = b.dest) && decide (a.n = b.n) && decide (a.at_ = b.at_) && opEq a b && decide (a.data = b.data)
def opL (k c : Int) (i : List UInt8) (n : Int) (t : List UInt8) : List Value := [.int .i64 k, .int .u16 c] ++ bys i ++ [.int .i64 n] ++ bys t
theorem op_guard : Try.prog.eqGuardType Try.prog.depth 51 = false := by kernel_rfl
@[go_sem] theorem guard_op (op : BinOp) (x y : Operand) (xs ys : Array Value) (w : World) : (eqGuard op 51 x y (.agg xs) (.agg ys)).run Try.prog w = .ok () w := run_eqGuard_agg w op 51 x y xs ys op_guard
set_option maxRecDepth 100000 in
set_option maxHeartbeats 1600000 in
theorem op_eq (ka kb ca cb na nb : Int) (i1 i2 t1 t2 : List UInt8) (h1 : i1.length = 8) (h2 : i2.length = 8) (h3 : t1.length = 8) (h4 : t2.length = 8) (w : World) :
    (Op.equalIn 10000 51 (.agg (opL ka ca i1 na t1).toArray) (.agg (opL kb cb i2 nb t2).toArray)).run Try.prog w =
      .ok (decide (ka = kb) && decide (ca = cb) && decide (i1 = i2) && decide (na = nb) && decide (t1 = t2)) w := by
  have hI := fun W : World => nm_eq 9997 i1 i2 h1 h2 W
  have hT := fun W : World => nm_eq 9997 t1 t2 h3 h4 W
  obtain ⟨B1, hd1⟩ : ∃ d, d = decide (i1 = i2) := ⟨_, rfl⟩
  obtain ⟨B2, hd2⟩ : ∃ d, d = decide (t1 = t2) := ⟨_, rfl⟩
  rw [← hd1] at hI ⊢
  rw [← hd2] at hT ⊢
  clear hd1 hd2
  obtain ⟨a0, a1, a2, a3, a4, a5, a6, a7, rfl⟩ := eight h1
  obtain ⟨b0, b1, b2, b3, b4, b5, b6, b7, rfl⟩ := eight h2
  obtain ⟨c0, c1, c2, c3, c4, c5, c6, c7, rfl⟩ := eight h3
  obtain ⟨d0, d1, d2, d3, d4, d5, d6, d7, rfl⟩ := eight h4
  have hI2 : ∀ W : World, (Op.equalIn 9999 49 (.agg #[.int .u8 (a0.toNat : Int), .int .u8 (a1.toNat : Int), .int .u8 (a2.toNat : Int), .int .u8 (a3.toNat : Int), .int .u8 (a4.toNat : Int), .int .u8 (a5.toNat : Int), .int .u8 (a6.toNat : Int), .int .u8 (a7.toNat : Int)]) (.agg #[.int .u8 (b0.toNat : Int), .int .u8 (b1.toNat : Int), .int .u8 (b2.toNat : Int), .int .u8 (b3.toNat : Int), .int .u8 (b4.toNat : Int), .int .u8 (b5.toNat : Int), .int .u8 (b6.toNat : Int), .int .u8 (b7.toNat : Int)])).run Try.prog W = .ok B1 W := hI
  have hT2 : ∀ W : World, (Op.equalIn 9999 49 (.agg #[.int .u8 (c0.toNat : Int), .int .u8 (c1.toNat : Int), .int .u8 (c2.toNat : Int), .int .u8 (c3.toNat : Int), .int .u8 (c4.toNat : Int), .int .u8 (c5.toNat : Int), .int .u8 (c6.toNat : Int), .int .u8 (c7.toNat : Int)]) (.agg #[.int .u8 (d0.toNat : Int), .int .u8 (d1.toNat : Int), .int .u8 (d2.toNat : Int), .int .u8 (d3.toNat : Int), .int .u8 (d4.toNat : Int), .int .u8 (d5.toNat : Int), .int .u8 (d6.toNat : Int), .int .u8 (d7.toNat : Int)])).run Try.prog W = .ok B2 W := hT
  clear hI hT
  have hS : Try.prog.underlying 51 = some (.struct (Try.prog.fieldsOf 51)) := by kernel_rfl
  have hp : Try.prog.stoodInHeld 51 = false := by kernel_rfl
  have Qu3 := Try.underlying3
  have Qa3 := Try.isAgg3
  have Qz3 := Try.sizeOf3
  have Qu4 := Try.underlying47
  have Qa4 := Try.isAgg47
  have Qz4 := Try.sizeOf47
  have Qa5 := Try.isAgg49
  have Qz5 := Try.sizeOf49
  show (Op.equalIn (9999 + 1) 51 (.agg #[.int .i64 ka, .int .u16 ca, .int .u8 (a0.toNat : Int), .int .u8 (a1.toNat : Int), .int .u8 (a2.toNat : Int), .int .u8 (a3.toNat : Int), .int .u8 (a4.toNat : Int), .int .u8 (a5.toNat : Int), .int .u8 (a6.toNat : Int), .int .u8 (a7.toNat : Int), .int .i64 na, .int .u8 (c0.toNat : Int), .int .u8 (c1.toNat : Int), .int .u8 (c2.toNat : Int), .int .u8 (c3.toNat : Int), .int .u8 (c4.toNat : Int), .int .u8 (c5.toNat : Int), .int .u8 (c6.toNat : Int), .int .u8 (c7.toNat : Int)]) (.agg #[.int .i64 kb, .int .u16 cb, .int .u8 (b0.toNat : Int), .int .u8 (b1.toNat : Int), .int .u8 (b2.toNat : Int), .int .u8 (b3.toNat : Int), .int .u8 (b4.toNat : Int), .int .u8 (b5.toNat : Int), .int .u8 (b6.toNat : Int), .int .u8 (b7.toNat : Int), .int .i64 nb, .int .u8 (d0.toNat : Int), .int .u8 (d1.toNat : Int), .int .u8 (d2.toNat : Int), .int .u8 (d3.toNat : Int), .int .u8 (d4.toNat : Int), .int .u8 (d5.toNat : Int), .int .u8 (d6.toNat : Int), .int .u8 (d7.toNat : Int)])).run Try.prog w = _
  rw [run_equalIn_agg w 9999 51 _ _ hS hp]
  simp only [Program.fieldsOf, Try.underlying51]
  go_simp
  by_cases h1 : ka = kb <;> by_cases h2 : ca = cb <;> by_cases h3 : na = nb <;> cases B1 <;> cases B2 <;> simp [h1, h2, h3]
section
variable {P : Program}
/-- A guarded operation whose guard holds. -/
theorem wpList_wanted {ops : Array Oper} {rest : List Oper} {o : Oper} {a : Act} {w : World} {Q : Exit → Act → World → Prop} (hw : Region.wanted o (yielded ops a.tmps) = true)
    (h : ∀ K : Act → World → Prop, (∀ a w, wpList P ops Q rest a w → K a w) → o.wp P a w K Q) : wpList P ops Q (o :: rest) a w :=
  wpList_step fun K hK => by rw [if_pos hw]; exact h K hK
theorem wpList_load_midG {ops : Array Oper} {rest : List Oper} {op : Oper} {a : Act} {w : World} {Q : Exit → Act → World → Prop} (hw : Region.wanted op (yielded ops a.tmps) = true) (ty : TypeId) (x : Operand) (ho : op.op = .load ty x)
    (b o : Nat) (hx : a.eval x = .pointer (some ⟨b, o, none⟩)) (cs : List Value) (d : TypeDesc) (hc : w.rangeAt b o cs)
    (hu : P.underlying ty = some d) (hd : d.isRow = true) (hi : (P.info? ty).map (·.size) = some cs.length)
    (h : wpList P ops Q rest (a.put op.dst (.agg cs.toArray)) w) : wpList P ops Q (op :: rest) a w :=
  wpList_wanted hw fun _ hK => wp_load_mid ty x ho b o hx cs d hc hu hd hi (hK _ _ h)
theorem wpList_load_rowG {ops : Array Oper} {rest : List Oper} {o : Oper} {a : Act} {w : World} {Q : Exit → Act → World → Prop} (hw : Region.wanted o (yielded ops a.tmps) = true) (ty : TypeId) (x : Operand) (ho : o.op = .load ty x)
    (g : Nat) (hx : a.eval x = .pointer (some ⟨g, 0, none⟩)) (t : TypeId) (cs : Array Value) (fr : Nat × Nat) (d : TypeDesc) (hg : w.heap[g]? = some (.cells cs t fr))
    (hu : P.underlying ty = some d) (hd : (match d with | .struct _ | .array _ _ => true | _ => false) = true) (hi : (P.info? ty).map (·.size) = some cs.size)
    (h : wpList P ops Q rest (a.put o.dst (.agg cs)) w) : wpList P ops Q (o :: rest) a w :=
  wpList_wanted hw fun _ hK => wp_load_row ty x ho g hx t cs fr d hg hu hd hi (hK _ _ h)
end
def opOf (e : Ev) : List Value := opL e.okind e.cart e.item e.onN e.text
theorem opOf_len {e : Ev} (h : e.Ok) : (opOf e).length = 19 := by simp [opOf, opL, bys, h.1, h.2]
theorem evA_op {e : Ev} (_h : e.Ok) (dv : Value) (j : Nat) (v : Value) (hv : (opOf e)[j]? = some v) : (evA e dv)[5 + j]? = some v := by
  have e1 : evL e dv = [.int .i64 e.kind, .int .u8 e.rep, .int .u8 e.dest, .int .i64 e.n, .int .i64 e.at_] ++ (opOf e ++ [dv]) := by simp [evL, opOf, opL]
  have hj := (List.getElem?_eq_some_iff.1 hv).1
  unfold evA
  rw [List.getElem?_toArray, e1, List.getElem?_append_right (by simp), List.getElem?_append_left (by simp; omega)]
  simpa using hv
theorem evA_data {e : Ev} (h : e.Ok) (dv : Value) : (evA e dv)[24]? = some dv := by
  obtain ⟨a, b, c, d, f, g, i, j, hi⟩ := eight h.1
  obtain ⟨a2, b2, c2, d2, f2, g2, i2, j2, ht⟩ := eight h.2
  simp [evA, evL, hi, ht, bys]
theorem Blk.op {w : World} {b : Nat} {e : Ev} {dv : Value} {t : TypeId} (h : Blk w b (evA e dv) t) (hok : e.Ok) : w.rangeAt b 5 (opOf e) := fun j v hv => h.cell (5 + j) v (evA_op hok dv j v hv)
theorem info_op {e : Ev} (h : e.Ok) : (Try.prog.info? 51).map (·.size) = some (opOf e).length := by rw [opOf_len h]; kernel_rfl
theorem opEq_c (a b : Ev) (ha : a.Ok) (hb : b.Ok) (w : World) : (Op.equalIn 10000 51 (.agg (opOf a).toArray) (.agg (opOf b).toArray)).run Try.prog w = .ok (opEq a b) w := op_eq _ _ _ _ _ _ _ _ _ _ ha.1 hb.1 ha.2 hb.2 w
set_option maxRecDepth 100000 in
set_option maxHeartbeats 1600000 in
theorem alike_c (a b : Ev) (ha : a.Ok) (hb : b.Ok) (da db : Value) (w : World) (hda : Sees w da (bys a.data)) (hdb : Sees w db (bys b.data)) (hl : a.data.length ≤ 1000000000) :
    Calls Try.prog 41 #[evV a da, evV b db] w fun x w' => x = .returned (.bool (alikeB a b)) ∧ Only No w w' := by
  have HS := fun (W : World) (h1 : Sees W da (bys a.data)) (h2 : Sees W db (bys b.data)) => Lib.hid (equal8_c da db a.data b.data W h1 h2 hl)
  have HOB : Only No w ((w.alloc (.cells (evA a da) 55)).alloc (.cells (evA b db) 55)) := ((Only.refl No w).alloc _).alloc _
  have hbA : Blk ((w.alloc (.cells (evA a da) 55)).alloc (.cells (evA b db) 55)) w.heap.size (evA a da) 55 := (Blk.new w _ _).alloc _
  have hbB : Blk ((w.alloc (.cells (evA a da) 55)).alloc (.cells (evA b db) 55)) (w.heap.size + 1) (evA b db) 55 := by
    have h := Blk.new (w.alloc (.cells (evA a da) 55)) (evA b db) 55
    rw [show (w.alloc (.cells (evA a da) 55)).heap.size = w.heap.size + 1 by simp] at h
    exact h
  have HOP := fun W : World => opEq_c a b ha hb W
  have hR : alikeB a b = (decide (a.kind = b.kind) && decide (a.rep = b.rep) && decide (a.dest = b.dest) && decide (a.n = b.n) && decide (a.at_ = b.at_) && opEq a b && decide (a.data = b.data)) := rfl
  rw [hR]
  clear hR
  obtain ⟨OB, hOBe⟩ : ∃ B, B = opEq a b := ⟨_, rfl⟩
  rw [← hOBe] at HOP ⊢
  obtain ⟨R, hRR⟩ : ∃ R, R = decide (a.data = b.data) := ⟨_, rfl⟩
  rw [← hRR] at HS ⊢
  obtain ⟨RES, hRES⟩ : ∃ RES, RES = (decide (a.kind = b.kind) && decide (a.rep = b.rep) && decide (a.dest = b.dest) && decide (a.n = b.n) && decide (a.at_ = b.at_) && OB && R) := ⟨_, rfl⟩
  rw [← hRES]
  have HRES := Lib.hid hRES
  clear hOBe hRR hRES
  have cA0 := hbA.cell 0 (.int .i64 a.kind) rfl; have cA1 := hbA.cell 1 (.int .u8 a.rep) rfl; have cA2 := hbA.cell 2 (.int .u8 a.dest) rfl; have cA3 := hbA.cell 3 (.int .i64 a.n) rfl; have cA4 := hbA.cell 4 (.int .i64 a.at_) rfl; have cA24 := hbA.cell 24 _ (evA_data ha da)
  have cB0 := hbB.cell 0 (.int .i64 b.kind) rfl; have cB1 := hbB.cell 1 (.int .u8 b.rep) rfl; have cB2 := hbB.cell 2 (.int .u8 b.dest) rfl; have cB3 := hbB.cell 3 (.int .i64 b.n) rfl; have cB4 := hbB.cell 4 (.int .i64 b.at_) rfl; have cB24 := hbB.cell 24 _ (evA_data hb db)
  have rA := Lib.hid (hbA.op ha)
  have rB := Lib.hid (hbB.op hb)
  have iA := Lib.hid (info_op ha)
  have iB := Lib.hid (info_op hb)
  have HDA := Lib.hid (hda.no HOB)
  have HDB := Lib.hid (hdb.no HOB)
  have HO := Lib.hid HOB
  clear hda hdb HOB hbA hbB hl
  go_enter Try.func41, Try.ntmps41
  unfold evV
  go_upto_region 1 with fail
  generalize ((w.alloc (.cells (evA a da) 55)).alloc (.cells (evA b db) 55)) = w2 at *
  by_cases e : a.kind = b.kind
  case neg =>
    have q : (a.kind == b.kind) = false := beq_eq_false_iff_ne.2 e
    have E := Lib.hid (decide_eq_false e)
    clear e
    go_wp2_with fail
    go_ret
    rw [HRES.out, E.out]
    simp only [Bool.false_and]
    exact ⟨rfl, HO.out⟩
  have q_kind : (a.kind == b.kind) = true := beq_iff_eq.2 e
  have E_kind := Lib.hid (decide_eq_true e)
  clear e
  by_cases e : a.rep = b.rep
  case neg =>
    have q : (a.rep == b.rep) = false := beq_eq_false_iff_ne.2 e
    have E := Lib.hid (decide_eq_false e)
    clear e
    go_wp2_with fail
    go_ret
    rw [HRES.out, E.out]
    simp only [Bool.false_and, Bool.and_false]
    exact ⟨rfl, HO.out⟩
  have q_rep : (a.rep == b.rep) = true := beq_iff_eq.2 e
  have E_rep := Lib.hid (decide_eq_true e)
  clear e
  by_cases e : a.dest = b.dest
  case neg =>
    have q : (a.dest == b.dest) = false := beq_eq_false_iff_ne.2 e
    have E := Lib.hid (decide_eq_false e)
    clear e
    go_wp2_with fail
    go_ret
    rw [HRES.out, E.out]
    simp only [Bool.false_and, Bool.and_false]
    exact ⟨rfl, HO.out⟩
  have q_dest : (a.dest == b.dest) = true := beq_iff_eq.2 e
  have E_dest := Lib.hid (decide_eq_true e)
  clear e
  by_cases e : a.n = b.n
  case neg =>
    have q : (a.n == b.n) = false := beq_eq_false_iff_ne.2 e
    have E := Lib.hid (decide_eq_false e)
    clear e
    go_wp2_with fail
    go_ret
    rw [HRES.out, E.out]
    simp only [Bool.false_and, Bool.and_false]
    exact ⟨rfl, HO.out⟩
  have q_n : (a.n == b.n) = true := beq_iff_eq.2 e
  have E_n := Lib.hid (decide_eq_true e)
  clear e
  by_cases e : a.at_ = b.at_
  case neg =>
    have q : (a.at_ == b.at_) = false := beq_eq_false_iff_ne.2 e
    have E := Lib.hid (decide_eq_false e)
    clear e
    go_wp2_with fail
    go_ret
    rw [HRES.out, E.out]
    simp only [Bool.false_and, Bool.and_false]
    exact ⟨rfl, HO.out⟩
  have q_at_ : (a.at_ == b.at_) = true := beq_iff_eq.2 e
  have E_at_ := Lib.hid (decide_eq_true e)
  clear e
  cases OB with
  | false =>
    go_wp2_with (first
      | (refine wpList_load_midG (by rfl) 51 (.tmp 39) rfl w.heap.size 5 rfl (opOf a) _ rA.out Try.underlying51 rfl iA.out ?_)
      | (refine wpList_load_midG (by rfl) 51 (.tmp 41) rfl (w.heap.size + 1) 5 rfl (opOf b) _ rB.out Try.underlying51 rfl iB.out ?_))
    go_ret
    rw [HRES.out]
    simp only [Bool.false_and, Bool.and_false]
    exact ⟨rfl, HO.out⟩
  | true =>
    go_wp2_with (first
      | (refine wpList_load_midG (by rfl) 51 (.tmp 39) rfl w.heap.size 5 rfl (opOf a) _ rA.out Try.underlying51 rfl iA.out ?_)
      | (refine wpList_load_midG (by rfl) 51 (.tmp 41) rfl (w.heap.size + 1) 5 rfl (opOf b) _ rB.out Try.underlying51 rfl iB.out ?_))
    refine (HS _ HDA.out HDB.out).out.mono ?_
    rintro x w3 ⟨rfl, nd, rfl⟩
    go_wp2_with fail
    go_ret
    rw [HRES.out, E_kind.out, E_rep.out, E_dest.out, E_n.out, E_at_.out]
    simp only [Bool.true_and]
    exact ⟨rfl, HO.out.drewN nd⟩
set_option maxRecDepth 100000 in
set_option maxHeartbeats 1600000 in
theorem rsame_c (a b : Ev) (ha : a.Ok) (hb : b.Ok) (da db : Value) (w : World) (hda : Sees w da (bys a.data)) (hdb : Sees w db (bys b.data)) (hl : a.data.length ≤ 1000000000) :
    Calls Try.prog 12 #[evV a da, evV b db] w fun x w' => x = .returned (.bool (alikeB a b)) ∧ Only No w w' := by
  have HS := fun (W : World) (h1 : Sees W da (bys a.data)) (h2 : Sees W db (bys b.data)) => Lib.hid (same8_c da db a.data b.data W h1 h2 hl)
  have HOB : Only No w ((w.alloc (.cells (evA a da) 54)).alloc (.cells (evA b db) 54)) := ((Only.refl No w).alloc _).alloc _
  have hbA : Blk ((w.alloc (.cells (evA a da) 54)).alloc (.cells (evA b db) 54)) w.heap.size (evA a da) 54 := (Blk.new w _ _).alloc _
  have hbB : Blk ((w.alloc (.cells (evA a da) 54)).alloc (.cells (evA b db) 54)) (w.heap.size + 1) (evA b db) 54 := by
    have h := Blk.new (w.alloc (.cells (evA a da) 54)) (evA b db) 54
    rw [show (w.alloc (.cells (evA a da) 54)).heap.size = w.heap.size + 1 by simp] at h
    exact h
  have HOP := fun W : World => opEq_c a b ha hb W
  have hR : alikeB a b = (decide (a.kind = b.kind) && decide (a.rep = b.rep) && decide (a.dest = b.dest) && decide (a.n = b.n) && decide (a.at_ = b.at_) && opEq a b && decide (a.data = b.data)) := rfl
  rw [hR]
  clear hR
  obtain ⟨OB, hOBe⟩ : ∃ B, B = opEq a b := ⟨_, rfl⟩
  rw [← hOBe] at HOP ⊢
  obtain ⟨R, hRR⟩ : ∃ R, R = decide (a.data = b.data) := ⟨_, rfl⟩
  rw [← hRR] at HS ⊢
  obtain ⟨RES, hRES⟩ : ∃ RES, RES = (decide (a.kind = b.kind) && decide (a.rep = b.rep) && decide (a.dest = b.dest) && decide (a.n = b.n) && decide (a.at_ = b.at_) && OB && R) := ⟨_, rfl⟩
  rw [← hRES]
  have HRES := Lib.hid hRES
  clear hOBe hRR hRES
  have cA0 := hbA.cell 0 (.int .i64 a.kind) rfl; have cA1 := hbA.cell 1 (.int .u8 a.rep) rfl; have cA2 := hbA.cell 2 (.int .u8 a.dest) rfl; have cA3 := hbA.cell 3 (.int .i64 a.n) rfl; have cA4 := hbA.cell 4 (.int .i64 a.at_) rfl; have cA24 := hbA.cell 24 _ (evA_data ha da)
  have cB0 := hbB.cell 0 (.int .i64 b.kind) rfl; have cB1 := hbB.cell 1 (.int .u8 b.rep) rfl; have cB2 := hbB.cell 2 (.int .u8 b.dest) rfl; have cB3 := hbB.cell 3 (.int .i64 b.n) rfl; have cB4 := hbB.cell 4 (.int .i64 b.at_) rfl; have cB24 := hbB.cell 24 _ (evA_data hb db)
  have rA := Lib.hid (hbA.op ha)
  have rB := Lib.hid (hbB.op hb)
  have iA := Lib.hid (info_op ha)
  have iB := Lib.hid (info_op hb)
  have HDA := Lib.hid (hda.no HOB)
  have HDB := Lib.hid (hdb.no HOB)
  have HO := Lib.hid HOB
  clear hda hdb HOB hbA hbB hl
  go_enter Try.func12, Try.ntmps12
  unfold evV
  go_upto_region 1 with fail
  generalize ((w.alloc (.cells (evA a da) 54)).alloc (.cells (evA b db) 54)) = w2 at *
  by_cases e : a.kind = b.kind
  case neg =>
    have q : (a.kind == b.kind) = false := beq_eq_false_iff_ne.2 e
    have E := Lib.hid (decide_eq_false e)
    clear e
    go_wp2_with fail
    go_ret
    rw [HRES.out, E.out]
    simp only [Bool.false_and]
    exact ⟨rfl, HO.out⟩
  have q_kind : (a.kind == b.kind) = true := beq_iff_eq.2 e
  have E_kind := Lib.hid (decide_eq_true e)
  clear e
  by_cases e : a.rep = b.rep
  case neg =>
    have q : (a.rep == b.rep) = false := beq_eq_false_iff_ne.2 e
    have E := Lib.hid (decide_eq_false e)
    clear e
    go_wp2_with fail
    go_ret
    rw [HRES.out, E.out]
    simp only [Bool.false_and, Bool.and_false]
    exact ⟨rfl, HO.out⟩
  have q_rep : (a.rep == b.rep) = true := beq_iff_eq.2 e
  have E_rep := Lib.hid (decide_eq_true e)
  clear e
  by_cases e : a.dest = b.dest
  case neg =>
    have q : (a.dest == b.dest) = false := beq_eq_false_iff_ne.2 e
    have E := Lib.hid (decide_eq_false e)
    clear e
    go_wp2_with fail
    go_ret
    rw [HRES.out, E.out]
    simp only [Bool.false_and, Bool.and_false]
    exact ⟨rfl, HO.out⟩
  have q_dest : (a.dest == b.dest) = true := beq_iff_eq.2 e
  have E_dest := Lib.hid (decide_eq_true e)
  clear e
  by_cases e : a.n = b.n
  case neg =>
    have q : (a.n == b.n) = false := beq_eq_false_iff_ne.2 e
    have E := Lib.hid (decide_eq_false e)
    clear e
    go_wp2_with fail
    go_ret
    rw [HRES.out, E.out]
    simp only [Bool.false_and, Bool.and_false]
    exact ⟨rfl, HO.out⟩
  have q_n : (a.n == b.n) = true := beq_iff_eq.2 e
  have E_n := Lib.hid (decide_eq_true e)
  clear e
  by_cases e : a.at_ = b.at_
  case neg =>
    have q : (a.at_ == b.at_) = false := beq_eq_false_iff_ne.2 e
    have E := Lib.hid (decide_eq_false e)
    clear e
    go_wp2_with fail
    go_ret
    rw [HRES.out, E.out]
    simp only [Bool.false_and, Bool.and_false]
    exact ⟨rfl, HO.out⟩
  have q_at_ : (a.at_ == b.at_) = true := beq_iff_eq.2 e
  have E_at_ := Lib.hid (decide_eq_true e)
  clear e
  cases OB with
  | false =>
    go_wp2_with (first
      | (refine wpList_load_midG (by rfl) 51 (.tmp 39) rfl w.heap.size 5 rfl (opOf a) _ rA.out Try.underlying51 rfl iA.out ?_)
      | (refine wpList_load_midG (by rfl) 51 (.tmp 41) rfl (w.heap.size + 1) 5 rfl (opOf b) _ rB.out Try.underlying51 rfl iB.out ?_))
    go_ret
    rw [HRES.out]
    simp only [Bool.false_and, Bool.and_false]
    exact ⟨rfl, HO.out⟩
  | true =>
    go_wp2_with (first
      | (refine wpList_load_midG (by rfl) 51 (.tmp 39) rfl w.heap.size 5 rfl (opOf a) _ rA.out Try.underlying51 rfl iA.out ?_)
      | (refine wpList_load_midG (by rfl) 51 (.tmp 41) rfl (w.heap.size + 1) 5 rfl (opOf b) _ rB.out Try.underlying51 rfl iB.out ?_))
    refine (HS _ HDA.out HDB.out).out.mono ?_
    rintro x w3 ⟨rfl, nd, rfl⟩
    go_wp2_with fail
    go_ret
    rw [HRES.out, E_kind.out, E_rep.out, E_dest.out, E_n.out, E_at_.out]
    simp only [Bool.true_and]
    exact ⟨rfl, HO.out.drewN nd⟩
end Go.Proofs.Ytlilhdkaaendlaa
