/- Events as cells, what a line of words says, and the laws of a row of an event. No statement is proved here. -/
import Derived.Test.YtlilhdkaaendlaaUnhex
import Derived.Test.YtlilhdkaaendlaaRtakeN
import Derived.Laws.CopyRow
namespace Go.Proofs.Ytlilhdkaaendlaa
open Go.RowKit

structure Ev where
  kind : Int := 0
  rep : Int := 0
  dest : Int := 0
  n : Int := 0
  at_ : Int := 0
  okind : Int := 0
  cart : Int := 0
  item : List UInt8 := zeroN
  onN : Int := 0
  text : List UInt8 := zeroN
  data : List UInt8 := []
def Ev.Ok (e : Ev) : Prop := e.item.length = 8 ∧ e.text.length = 8
def evL (e : Ev) (dv : Value) : List Value := [.int .i64 e.kind, .int .u8 e.rep, .int .u8 e.dest, .int .i64 e.n, .int .i64 e.at_, .int .i64 e.okind, .int .u16 e.cart] ++ bys e.item ++ [.int .i64 e.onN] ++ bys e.text ++ [dv]
def evA (e : Ev) (dv : Value) : Array Value := (evL e dv).toArray
def evV (e : Ev) (dv : Value) : Value := .agg (evA e dv)
theorem evA_size {e : Ev} (h : e.Ok) (dv : Value) : (evA e dv).size = 25 := by
  simp [evA, evL, bys, h.1, h.2]
theorem info_ev : (Try.prog.info? 55).map (·.size) = some 25 := by kernel_rfl
theorem info_rev : (Try.prog.info? 54).map (·.size) = some 25 := by kernel_rfl
theorem info_evA {e : Ev} (h : e.Ok) (dv : Value) : (Try.prog.info? 55).map (·.size) = some (evA e dv).size := by rw [evA_size h]; exact info_ev
theorem info_revA {e : Ev} (h : e.Ok) (dv : Value) : (Try.prog.info? 54).map (·.size) = some (evA e dv).size := by rw [evA_size h]; exact info_rev
theorem one_evA (e : Ev) {dv : Value} (h : dv.oneCell' = true) : (evA e dv).all (·.oneCell') = true := by
  rw [Array.all_eq_true_iff_forall_mem]
  intro v hv
  simp only [evA, evL, bys, List.mem_toArray, List.mem_append, List.mem_map, List.mem_cons, List.not_mem_nil, or_false] at hv
  rcases hv with (((hv | ⟨c, -, rfl⟩) | rfl) | ⟨c, -, rfl⟩) | rfl
  · rcases hv with rfl | rfl | rfl | rfl | rfl | rfl | rfl <;> rfl
  · rfl
  · rfl
  · rfl
  · exact h
theorem Ev.ok0 : Ev.Ok {} := ⟨rfl, rfl⟩
theorem set_kind (e : Ev) (dv : Value) (x : Int) : (evA e dv).setIfInBounds 0 (.int .i64 x) = evA { e with kind := x } dv := by simp [evA, evL]
theorem set_rep (e : Ev) (dv : Value) (x : Int) : (evA e dv).setIfInBounds 1 (.int .u8 x) = evA { e with rep := x } dv := by simp [evA, evL]
theorem set_to (e : Ev) (dv : Value) (x : Int) : (evA e dv).setIfInBounds 2 (.int .u8 x) = evA { e with dest := x } dv := by simp [evA, evL]
theorem set_n (e : Ev) (dv : Value) (x : Int) : (evA e dv).setIfInBounds 3 (.int .i64 x) = evA { e with n := x } dv := by simp [evA, evL]
theorem set_at (e : Ev) (dv : Value) (x : Int) : (evA e dv).setIfInBounds 4 (.int .i64 x) = evA { e with at_ := x } dv := by simp [evA, evL]
theorem set_okind (e : Ev) (dv : Value) (x : Int) : (evA e dv).setIfInBounds 5 (.int .i64 x) = evA { e with okind := x } dv := by simp [evA, evL]
theorem set_cart (e : Ev) (dv : Value) (x : Int) : (evA e dv).setIfInBounds 6 (.int .u16 x) = evA { e with cart := x } dv := by simp [evA, evL]
theorem set_on {e : Ev} (h : e.Ok) (dv : Value) (x : Int) : (evA e dv).setIfInBounds 15 (.int .i64 x) = evA { e with onN := x } dv := by
  obtain ⟨a, b, c, d, f, g, i, j, hi⟩ := eight h.1
  simp [evA, evL, hi, bys]
theorem set_data {e : Ev} (h : e.Ok) (dv x : Value) : (evA e dv).setIfInBounds 24 x = evA e x := by
  obtain ⟨a, b, c, d, f, g, i, j, hi⟩ := eight h.1
  obtain ⟨a', b', c', d', f', g', i', j', ht⟩ := eight h.2
  simp [evA, evL, hi, ht, bys]
theorem put_item {e : Ev} (h : e.Ok) (dv : Value) (n : List UInt8) (hn : n.length = 8) : ((evA e dv).toList.take 7 ++ bys n ++ (evA e dv).toList.drop (7 + (bys n).length)).toArray = evA { e with item := n } dv := by
  obtain ⟨a, b, c, d, f, g, i, j, hi⟩ := eight h.1
  obtain ⟨a', b', c', d', f', g', i', j', rfl⟩ := eight hn
  simp [evA, evL, hi, bys]
theorem put_text {e : Ev} (h : e.Ok) (dv : Value) (n : List UInt8) (hn : n.length = 8) : ((evA e dv).toList.take 16 ++ bys n ++ (evA e dv).toList.drop (16 + (bys n).length)).toArray = evA { e with text := n } dv := by
  obtain ⟨a, b, c, d, f, g, i, j, hi⟩ := eight h.1
  obtain ⟨a2, b2, c2, d2, f2, g2, i2, j2, ht⟩ := eight h.2
  obtain ⟨a', b', c', d', f', g', i', j', rfl⟩ := eight hn
  simp [evA, evL, hi, ht, bys]
section
variable {P : Program}
/-- A value of several cells goes into the middle of a row. -/
theorem wpList_store_in {ops : Array Oper} {rest : List Oper} {op : Oper} {a : Act} {w : World} {Q : Exit → Act → World → Prop} (hgd : op.guard = none) (ty : TypeId) (x y : Operand) (ho : op.op = .store ty x y)
    (g o : Nat) (vs : List Value) (hx : a.eval x = .pointer (some ⟨g, o, none⟩)) (hy : a.eval y = .agg vs.toArray)
    (t : TypeId) (old new : Array Value) (hg : w.heap[g]? = some (.cells old t (0, 0))) (hk : o + vs.length ≤ old.size) (hi : (P.info? ty).map (·.size) = some vs.length) (h1 : ∀ v ∈ vs, v.oneCell' = true)
    (hnew : (old.toList.take o ++ vs ++ old.toList.drop (o + vs.length)).toArray = new)
    (h : wpList P ops Q rest (a.put op.dst undef) (w.setRow g new)) : wpList P ops Q (op :: rest) a w := by
  refine wpList_plain hgd fun _ hK => ?_
  have hst := run_storeCells_at P g o t vs 0 old w hg (by omega) h1
  rw [Nat.add_zero, hnew] at hst
  have hsv : (storeVar ty ⟨g, o, none⟩ (.agg vs.toArray)).run P w = .ok () (w.setRow g new) := by
    cases hq : P.info? ty with
    | none => simp [hq] at hi
    | some i =>
      have hs : vs.length = i.size := by simp [hq] at hi; omega
      simp [storeVar, sizeOf, typeInfo, hq, Value.cells, hs, hst]
  unfold Oper.wp execOp
  simp only [ho, hx, hy, Instr.storeAt, Instr.sureAddr, Sem.run_bind, Sem.run_pure, Result.andThen_ok, hsv]
  exact hK _ _ h
end

/-! ### What a line says -/
def kindW (p : ByteArray) : Nat :=
  if p.data.toList = [100, 111] then 1 else if p.data.toList = [103, 111, 115, 115, 105, 112] then 2 else if p.data.toList = [98, 101, 103, 105, 110] then 3 else if p.data.toList = [114, 111, 117, 110, 100] then 4
  else if p.data.toList = [99, 111, 109, 101] then 5 else if p.data.toList = [108, 111, 115, 101] then 6 else if p.data.toList = [116, 119, 105, 99, 101] then 7 else if p.data.toList = [115, 112, 111, 105, 108] then 8
  else if p.data.toList = [105, 110, 106, 101, 99, 116] then 9 else 0
def opW (p : ByteArray) : Nat :=
  if p.data.toList = [97, 100, 100] then 1 else if p.data.toList = [114, 101, 109, 111, 118, 101] then 2 else if p.data.toList = [115, 101, 116] then 3 else if p.data.toList = [119, 114, 105, 116, 101] then 4
  else if p.data.toList = [99, 108, 101, 97, 114] then 5 else 0
theorem kindW_le (p : ByteArray) : kindW p ≤ 9 := by unfold kindW; repeat' split <;> try decide
theorem opW_le (p : ByteArray) : opW p ≤ 5 := by unfold opW; repeat' split <;> try decide
theorem kw_all (p : ByteArray) : (p.toList == [100, 111]) = decide (kindW p = 1) ∧ (p.toList == [103, 111, 115, 115, 105, 112]) = decide (kindW p = 2) ∧ (p.toList == [98, 101, 103, 105, 110]) = decide (kindW p = 3) ∧ (p.toList == [114, 111, 117, 110, 100]) = decide (kindW p = 4)
    ∧ (p.toList == [99, 111, 109, 101]) = decide (kindW p = 5) ∧ (p.toList == [108, 111, 115, 101]) = decide (kindW p = 6) ∧ (p.toList == [116, 119, 105, 99, 101]) = decide (kindW p = 7) ∧ (p.toList == [115, 112, 111, 105, 108]) = decide (kindW p = 8)
    ∧ (p.toList == [105, 110, 106, 101, 99, 116]) = decide (kindW p = 9) := by
  unfold kindW
  rw [ByteArray.toList_eq]
  generalize p.data.toList = l
  repeat' split
  all_goals first
    | (subst l; decide)
    | simp_all
theorem ow_all (p : ByteArray) : (p.toList == [97, 100, 100]) = decide (opW p = 1) ∧ (p.toList == [114, 101, 109, 111, 118, 101]) = decide (opW p = 2) ∧ (p.toList == [115, 101, 116]) = decide (opW p = 3) ∧ (p.toList == [119, 114, 105, 116, 101]) = decide (opW p = 4)
    ∧ (p.toList == [99, 108, 101, 97, 114]) = decide (opW p = 5) := by
  unfold opW
  rw [ByteArray.toList_eq]
  generalize p.data.toList = l
  repeat' split
  all_goals first
    | (subst l; decide)
    | simp_all
def manyDo (k : Nat) : Nat := match k with
  | 1 => 6 | 2 => 5 | 3 => 6 | 4 => 5 | 5 => 4 | _ => 0
/-- How many words a line has that begins so; 0: there is none. -/
def many (L : List ByteArray) : Nat := match L with
  | [] => 0
  | p :: r => match kindW p with
    | 1 => match r with
      | _ :: q :: _ => manyDo (opW q)
      | _ => 0
    | 2 => 3 | 3 => 4 | 4 => 2 | 5 => 2 | 6 => 2 | 7 => 2 | 8 => 4 | 9 => 3 | _ => 0
def modeL : List ByteArray := [⟨#[99, 101, 108, 108, 115]⟩, ⟨#[116, 97, 98, 108, 101]⟩, ⟨#[119, 104, 111, 108, 101]⟩]
def modeN (p : ByteArray) : Int := 1 + idx modeL p
def modeE (p : ByteArray) : Int := idxErr modeL p
def gossipM (a b : ByteArray) : Ev × Int := ({ kind := 2, rep := (numE 255 a).1, dest := (numE 255 b).1 }, keepE (numE 255 a).2 (numE 255 b).2)
def beginM (a b m : ByteArray) : Ev × Int := ({ kind := 3, rep := (numE 255 a).1, dest := (numE 255 b).1, n := modeN m }, keepE (keepE (numE 255 a).2 (numE 255 b).2) (modeE m))
def roundM (a : ByteArray) : Ev × Int := ({ kind := 4, rep := (numE 255 a).1 }, (numE 255 a).2)
def flightM (k : Int) (a : ByteArray) : Ev × Int := ({ kind := k, at_ := (numE 2147483647 a).1 }, (numE 2147483647 a).2)
def spoilM (a n d : ByteArray) : Ev × Int := ({ kind := 8, at_ := (numE 2147483647 a).1, n := (numE 2147483647 n).1, data := [UInt8.ofNat (numE 255 d).1.toNat] }, keepE (keepE (numE 2147483647 a).2 (numE 2147483647 n).2) (numE 255 d).2)
def injectM (a d : ByteArray) : Ev × Int := ({ kind := 9, dest := (numE 255 a).1, data := (unhexM d.data.toList).1 }, keepE (numE 255 a).2 (unhexM d.data.toList).2)
def doM (a q c : ByteArray) (r : List ByteArray) : Ev × Int := match opW q, r with
  | 1, [i, n] => ({ kind := 1, rep := (numE 255 a).1, okind := 1, cart := (numE 65535 c).1, item := (ofN i.data.toList).1, onN := (numE 4294967295 n).1 }, keepE (keepE (keepE (numE 255 a).2 (numE 65535 c).2) (ofN i.data.toList).2) (numE 4294967295 n).2)
  | 2, [i] => ({ kind := 1, rep := (numE 255 a).1, okind := 2, cart := (numE 65535 c).1, item := (ofN i.data.toList).1 }, keepE (keepE (numE 255 a).2 (numE 65535 c).2) (ofN i.data.toList).2)
  | 3, [i, n] => ({ kind := 1, rep := (numE 255 a).1, okind := 3, cart := (numE 65535 c).1, item := (ofN i.data.toList).1, onN := (numE 4294967295 n).1 }, keepE (keepE (keepE (numE 255 a).2 (numE 65535 c).2) (ofN i.data.toList).2) (numE 4294967295 n).2)
  | 4, [t] => ({ kind := 1, rep := (numE 255 a).1, okind := 4, cart := (numE 65535 c).1, text := (textN t).1 }, keepE (keepE (numE 255 a).2 (numE 65535 c).2) (textN t).2)
  | 5, [] => ({ kind := 1, rep := (numE 255 a).1, okind := 5, cart := (numE 65535 c).1 }, keepE (numE 255 a).2 (numE 65535 c).2)
  | _, _ => ({}, 3)
def rdM (L : List ByteArray) : Ev × Int := match L with
  | [] => ({}, 3)
  | p :: r => match kindW p, r with
    | 1, a :: q :: c :: r2 => doM a q c r2
    | 2, [a, b] => gossipM a b
    | 3, [a, b, m] => beginM a b m
    | 4, [a] => roundM a
    | 5, [a] => flightM 5 a
    | 6, [a] => flightM 6 a
    | 7, [a] => flightM 7 a
    | 8, [a, n, d] => spoilM a n d
    | 9, [a, d] => injectM a d
    | _, _ => ({}, 3)
/-- The event that the words say, or the error. -/
def evM (L : List ByteArray) : Ev × Int := if many L = 0 ∨ many L ≠ L.length then ({}, 3) else if (rdM L).2 = 0 then ((rdM L).1, 0) else ({}, (rdM L).2)
theorem doM_ok (a q c : ByteArray) (r : List ByteArray) : (doM a q c r).1.Ok := by
  unfold doM
  split <;> first | exact ⟨ofN_len _, rfl⟩ | exact ⟨rfl, rfl⟩ | (refine ⟨rfl, ?_⟩; show (textN _).1.length = 8; unfold textN; split; rfl; exact ofN_len _)
theorem rdM_ok (L : List ByteArray) : (rdM L).1.Ok := by
  unfold rdM
  split
  · exact Ev.ok0
  · split <;> first | exact doM_ok _ _ _ _ | exact ⟨rfl, rfl⟩
theorem evM_ok (L : List ByteArray) : (evM L).1.Ok := by
  unfold evM
  split
  · exact Ev.ok0
  · split
    · exact rdM_ok L
    · exact Ev.ok0
/-- An event and an error are handed back; the event's bytes lie in memory of their own. -/
def EvR (r : Ev × Int) (w : World) (x : Ending) (w' : World) : Prop := ∃ dv, x = .returned (.tuple #[evV r.1 dv, .int .i64 r.2]) ∧ Sees w' dv (bys r.1.data) ∧ (∀ k, dv.ownBlock = some k → w.heap.size ≤ k) ∧ Only No w w'
theorem texts_eq : ∀ {p q : List ByteArray}, p.map (fun x => x.data.toList) = q.map (fun x => x.data.toList) → p = q
  | [], [], _ => rfl
  | [], _ :: _, h => by simp at h
  | _ :: _, [], h => by simp at h
  | a :: p, b :: q, h => by
    simp only [List.map_cons, List.cons.injEq] at h
    obtain ⟨a⟩ := a
    obtain ⟨b⟩ := b
    have h1 : a = b := by simpa using congrArg List.toArray h.1
    rw [h1, texts_eq h.2]
def lineW (s : ByteArray) : List ByteArray := (wordsM s.data.toList).map fun l => ⟨l.toArray⟩
theorem lineW_eq {s : ByteArray} {ps : List ByteArray} (h : ps.map (fun p => p.data.toList) = wordsM s.data.toList) : ps = lineW s := by
  refine texts_eq ?_
  rw [h]
  unfold lineW
  rw [List.map_map]
  conv => lhs; rw [← List.map_id (wordsM s.data.toList)]
  exact List.map_congr_left fun l _ => by simp
end Go.Proofs.Ytlilhdkaaendlaa
