/- Whatever questions and answers come, each question is heard as a fresh one at most once, in order: what each event does to what holds (for the walk of CallOnce). -/
import Derived.Test.YtpegbplppfbomaaBun
import Derived.Test.YtpegbplppfbomaaCall
import Derived.Test.YtpegbplppfbomaaAlive29
namespace Go.Proofs.Ytpegbplppfbomaa
open Go.RowKit

def askedV (s : Nat) : List Value := (List.range s).map fun i : Nat => .int .i64 (100 + (i : Int))
def takenV (t : Nat) : List Value := (List.range t).map fun i : Nat => .int .i64 (7 * (100 + (i : Int)))
def upV (l : List Nat) : List Value := l.flatMap fun n : Nat => [.int .i64 (n : Int), .int .i64 (99 + (n : Int))]
def downV (l : List Nat) : List Value := l.flatMap fun n : Nat => [.int .i64 (n : Int), .int .i64 (7 * (99 + (n : Int)))]

/-- What holds between two events: s were asked, m heard, t taken. -/
structure OInv (wr : World) (B : Nat) (k s m t : Nat) (wt : Bool) (up down : List Nat) (v5 v6 v7 v8 v9 : Value) : Prop where
  a : ∃ x : Int, AskI wr B s x wt ∧ (wt = true → x = 99 + (s : Int))
  b : ∃ y : Int, AnsI wr (B + 1) m y ∧ (0 < m → y = 7 * (99 + (m : Int)))
  bun : Bun wr (B + 2) [(3, 1, v5, s, askedV s), (3, 1, v6, m, askedV m), (3, 1, v7, t, takenV t), (36, 2, v8, up.length, upV up), (36, 2, v9, down.length, downV down)]
  hup : ∀ n ∈ up, 1 ≤ n ∧ n ≤ s
  hdown : ∀ n ∈ down, 1 ≤ n ∧ n ≤ m
  tm : t ≤ m
  ms : m ≤ s
  st : s = if wt = true then t + 1 else t
  sk : s ≤ k
  uk : up.length ≤ k
  dk : down.length ≤ k

theorem OInv.next {wr : World} {B k s m t : Nat} {wt : Bool} {up down : List Nat} {v5 v6 v7 v8 v9 : Value} (h : OInv wr B k s m t wt up down v5 v6 v7 v8 v9) : OInv wr B (k + 1) s m t wt up down v5 v6 v7 v8 v9 :=
  ⟨h.a, h.b, h.bun, h.hup, h.hdown, h.tm, h.ms, h.st, by have := h.sk; omega, by have := h.uk; omega, by have := h.dk; omega⟩

theorem OInv.forms {wr : World} {B k s m t : Nat} {wt : Bool} {up down : List Nat} {v5 v6 v7 v8 v9 : Value} (h : OInv wr B k s m t wt up down v5 v6 v7 v8 v9) :
    ∃ a5 c5 a6 c6 a7 c7 a8 c8 a9 c9, v5 = .slice a5 s c5 ∧ v6 = .slice a6 m c6 ∧ v7 = .slice a7 t c7 ∧ v8 = .slice a8 up.length c8 ∧ v9 = .slice a9 down.length c9 := by
  obtain ⟨a5, c5, h5, -⟩ := row_len (h.bun.owns 0 _ rfl)
  obtain ⟨a6, c6, h6, -⟩ := row_len (h.bun.owns 1 _ rfl)
  obtain ⟨a7, c7, h7, -⟩ := row_len (h.bun.owns 2 _ rfl)
  obtain ⟨a8, c8, h8, -⟩ := row_len (h.bun.owns 3 _ rfl)
  obtain ⟨a9, c9, h9, -⟩ := row_len (h.bun.owns 4 _ rfl)
  exact ⟨a5, c5, a6, c6, a7, c7, a8, c8, a9, c9, h5, h6, h7, h8, h9⟩

theorem OInv.drewN {wr : World} {B k s m t : Nat} {wt : Bool} {up down : List Nat} {v5 v6 v7 v8 v9 : Value} (h : OInv wr B k s m t wt up down v5 v6 v7 v8 v9) (n : Nat) : OInv (wr.drewN n) B k s m t wt up down v5 v6 v7 v8 v9 := by
  obtain ⟨x, ha, hxa⟩ := h.a
  obtain ⟨q, hb, hq⟩ := h.b
  exact ⟨⟨x, ha, hxa⟩, ⟨q, hb, hq⟩, h.bun.drewN n, h.hup, h.hdown, h.tm, h.ms, h.st, h.sk, h.uk, h.dk⟩
theorem askedV_succ (s : Nat) : askedV s ++ [.int .i64 (100 + (s : Int))] = askedV (s + 1) := by simp [askedV, List.range_succ]
theorem takenV_succ (s : Nat) : takenV s ++ [.int .i64 (7 * (100 + (s : Int)))] = takenV (s + 1) := by simp [takenV, List.range_succ]
theorem askedV_get (s q : Nat) (h : q < s) : (askedV s)[q]? = some (.int .i64 (100 + (q : Int))) := by simp [askedV, h]
theorem takenV_get (s q : Nat) (h : q < s) : (takenV s)[q]? = some (.int .i64 (7 * (100 + (q : Int)))) := by simp [takenV, h]
theorem upV_snoc (l : List Nat) (n : Nat) : upV l ++ [.int .i64 (n : Int), .int .i64 (99 + (n : Int))] = upV (l ++ [n]) := by simp [upV]
theorem downV_snoc (l : List Nat) (n : Nat) : downV l ++ [.int .i64 (n : Int), .int .i64 (7 * (99 + (n : Int)))] = downV (l ++ [n]) := by simp [downV]
theorem upV_get (l : List Nat) (j : Nat) (h : j < l.length) : (upV l)[j * 2]? = some (.int .i64 (l[j] : Int)) ∧ (upV l)[j * 2 + 1]? = some (.int .i64 (99 + (l[j] : Int))) := by
  induction l generalizing j with
  | nil => simp at h
  | cons a l ih =>
    cases j with
    | zero => simp [upV]
    | succ j => have := ih j (by simpa using h); simpa [upV, Nat.succ_mul] using this
theorem downV_get (l : List Nat) (j : Nat) (h : j < l.length) : (downV l)[j * 2]? = some (.int .i64 (l[j] : Int)) ∧ (downV l)[j * 2 + 1]? = some (.int .i64 (7 * (99 + (l[j] : Int)))) := by
  induction l generalizing j with
  | nil => simp at h
  | cons a l ih =>
    cases j with
    | zero => simp [downV]
    | succ j => have := ih j (by simpa using h); simpa [downV, Nat.succ_mul] using this

theorem OInv.asked {wr w2 w4 : World} {B k s m t : Nat} {up down : List Nat} {v5 v6 v7 v8 v9 v5' v8' : Value} {x y z : Int} (h : OInv wr B k s m t false up down v5 v6 v7 v8 v9)
    (hA : AskI w2 B (s + 1) x true) (hO : Only (· = B) wr w2) (hO' : Only (fun i => B + 2 ≤ i) w2 w4) (hx : x = 100 + (s : Int)) (hy : y = (s : Int) + 1) (hz : z = 100 + (s : Int))
    (hB : Bun w4 (B + 2) [(3, 1, v5', s + 1, askedV s ++ [.int .i64 x]), (3, 1, v6, m, askedV m), (3, 1, v7, t, takenV t), (36, 2, v8', up.length + 1, upV up ++ [.int .i64 y, .int .i64 z]), (36, 2, v9, down.length, downV down)]) :
    OInv w4 B (k + 1) (s + 1) m t true (up ++ [s + 1]) down v5' v6 v7 v8' v9 := by
  have e1 : z = 99 + ((s + 1 : Nat) : Int) := by omega
  have e2 : y = ((s + 1 : Nat) : Int) := by omega
  have hst := h.st
  have htm := h.tm
  have hms := h.ms
  simp at hst
  subst hx
  rw [e1, e2, askedV_succ, upV_snoc] at hB
  refine ⟨⟨_, hO'.blk hA (by omega), fun _ => by omega⟩, ?_, by simpa using hB, ?_, h.hdown, by omega, by omega, by simp; omega, by have := h.sk; omega, by have := h.uk; simp; omega, by have := h.dk; omega⟩
  · obtain ⟨q, hb, hq⟩ := h.b
    exact ⟨q, hO'.blk (hO.blk hb (by show ¬ B + 1 = B; omega)) (by omega), hq⟩
  · intro n hn
    rcases List.mem_append.1 hn with hn | hn
    · have := h.hup n hn; omega
    · simp at hn; omega
theorem OInv.again {wr w4 : World} {B k s m t : Nat} {up down : List Nat} {v5 v6 v7 v8 v9 v8' : Value} {y z : Int} (h : OInv wr B k s m t true up down v5 v6 v7 v8 v9)
    (hO' : Only (fun i => B + 2 ≤ i) wr w4) (hy : y = (s : Int)) (hz : z = 99 + (s : Int))
    (hB : Bun w4 (B + 2) [(3, 1, v5, s, askedV s), (3, 1, v6, m, askedV m), (3, 1, v7, t, takenV t), (36, 2, v8', up.length + 1, upV up ++ [.int .i64 y, .int .i64 z]), (36, 2, v9, down.length, downV down)]) :
    OInv w4 B (k + 1) s m t true (up ++ [s]) down v5 v6 v7 v8' v9 := by
  have hst := h.st
  have htm := h.tm
  have hms := h.ms
  simp at hst
  rw [hy, hz, upV_snoc] at hB
  obtain ⟨x, ha, hxa⟩ := h.a
  obtain ⟨q, hb, hq⟩ := h.b
  refine ⟨⟨x, hO'.blk ha (by omega), hxa⟩, ⟨q, hO'.blk hb (by omega), hq⟩, by simpa using hB, ?_, h.hdown, by omega, by omega, by simp; omega, by have := h.sk; omega, by have := h.uk; simp; omega, by have := h.dk; omega⟩
  intro n hn
  rcases List.mem_append.1 hn with hn | hn
  · exact h.hup n hn
  · simp at hn; omega
theorem OInv.heard {wr w2 w4 : World} {B k s m t n : Nat} {wt : Bool} {up down : List Nat} {v5 v6 v7 v8 v9 v6' v9' : Value} {u x y z : Int} (h : OInv wr B k s m t wt up down v5 v6 v7 v8 v9) (hn : n ∈ up) (hnm : n = m + 1)
    (hA : AnsI w2 (B + 1) x u) (hO : Only (fun i => i = B + 1 ∨ B + 2 ≤ i) wr w2) (hO' : Only (fun i => B + 2 ≤ i) w2 w4) (hx : x = (m : Int) + 1) (hu : u = 7 * (99 + (n : Int))) (hy : y = (n : Int)) (hz : z = 99 + (n : Int))
    (hB : Bun w4 (B + 2) [(3, 1, v5, s, askedV s), (3, 1, v6', m + 1, askedV m ++ [.int .i64 z]), (3, 1, v7, t, takenV t), (36, 2, v8, up.length, upV up), (36, 2, v9', down.length + 1, downV down ++ [.int .i64 y, .int .i64 u])]) :
    OInv w4 B (k + 1) s (m + 1) t wt up (down ++ [n]) v5 v6' v7 v8 v9' := by
  have hst := h.st
  have htm := h.tm
  have hms := h.ms
  have hns := h.hup n hn
  have e1 : z = 100 + (m : Int) := by omega
  have e2 : x = ((m + 1 : Nat) : Int) := by omega
  rw [e1, askedV_succ, hy, hu, downV_snoc] at hB
  rw [e2] at hA
  obtain ⟨xa, ha, hxa⟩ := h.a
  refine ⟨⟨xa, hO'.blk (hO.blk ha (by show ¬ (B = B + 1 ∨ B + 2 ≤ B); omega)) (by omega), hxa⟩, ⟨u, hO'.blk hA (by omega), fun _ => by omega⟩, by simpa using hB, h.hup, ?_, by omega, by omega, hst, by have := h.sk; omega, by have := h.uk; omega, by have := h.dk; simp; omega⟩
  intro i hi
  rcases List.mem_append.1 hi with hi | hi
  · have := h.hdown i hi; omega
  · simp at hi; omega
theorem OInv.told {wr w4 : World} {B k s m t n : Nat} {wt : Bool} {up down : List Nat} {v5 v6 v7 v8 v9 v9' : Value} {y z : Int} (h : OInv wr B k s m t wt up down v5 v6 v7 v8 v9) (hn : n = m) (h0 : 0 < n)
    (hO' : Only (fun i => B + 2 ≤ i) wr w4) (hy : y = (n : Int)) (hz : z = 7 * (99 + (n : Int)))
    (hB : Bun w4 (B + 2) [(3, 1, v5, s, askedV s), (3, 1, v6, m, askedV m), (3, 1, v7, t, takenV t), (36, 2, v8, up.length, upV up), (36, 2, v9', down.length + 1, downV down ++ [.int .i64 y, .int .i64 z])]) :
    OInv w4 B (k + 1) s m t wt up (down ++ [n]) v5 v6 v7 v8 v9' := by
  rw [hy, hz, downV_snoc] at hB
  obtain ⟨x, ha, hxa⟩ := h.a
  obtain ⟨q, hb, hq⟩ := h.b
  refine ⟨⟨x, hO'.blk ha (by omega), hxa⟩, ⟨q, hO'.blk hb (by omega), hq⟩, by simpa using hB, h.hup, ?_, h.tm, h.ms, h.st, by have := h.sk; omega, by have := h.uk; omega, by have := h.dk; simp; omega⟩
  intro i hi
  rcases List.mem_append.1 hi with hi | hi
  · exact h.hdown i hi
  · simp at hi; omega
theorem OInv.took {wr w2 w4 : World} {B k s m t n : Nat} {up down : List Nat} {v5 v6 v7 v8 v9 v7' : Value} {x z : Int} (h : OInv wr B k s m t true up down v5 v6 v7 v8 v9) (hn : n ∈ down) (hns : n = s)
    (hA : AskI w2 B s x false) (hO : Only (· = B) wr w2) (hO' : Only (fun i => B + 2 ≤ i) w2 w4) (hz : z = 7 * (99 + (n : Int)))
    (hB : Bun w4 (B + 2) [(3, 1, v5, s, askedV s), (3, 1, v6, m, askedV m), (3, 1, v7', t + 1, takenV t ++ [.int .i64 z]), (36, 2, v8, up.length, upV up), (36, 2, v9, down.length, downV down)]) :
    OInv w4 B (k + 1) s m (t + 1) false up down v5 v6 v7' v8 v9 := by
  have hst := h.st
  have hnd := h.hdown n hn
  have hms := h.ms
  simp at hst
  have e1 : z = 7 * (100 + (t : Int)) := by omega
  rw [e1, takenV_succ] at hB
  obtain ⟨q, hb, hq⟩ := h.b
  exact ⟨⟨x, hO'.blk hA (by omega), by simp⟩, ⟨q, hO'.blk (hO.blk hb (by show ¬ B + 1 = B; omega)) (by omega), hq⟩, by simpa using hB, h.hup, h.hdown, by omega, by omega, by simp; omega, by have := h.sk; omega, by have := h.uk; omega, by have := h.dk; omega⟩

theorem info_int : (Try.prog.info? 3).map (fun i => (i.zero, i.size, i.bytes)) = some (some (.int .i64 0), 1, 8) := by kernel_rfl
theorem info_two : (Try.prog.info? 36).map (fun i => (i.zero, i.size, i.bytes)) = some (some (.agg #[.int .i64 0, .int .i64 0]), 2, 16) := by kernel_rfl
theorem append1_int {W : World} {ops : Array Oper} {rest : List Oper} {o : Oper} {a : Act} {Q : Exit → Act → World → Prop} (hgd : o.guard = none) (s x : Operand)
    (ho : o.op = .call { callee := .builtin .append, args := #[s, x], argTypes := #[28, 28] })
    (base : Nat) (l : List RowD) (hB : Bun W base l) (j : Nat) (v : Value) (n : Nat) (xs : List Value) (hj : l[j]? = some (3, 1, v, n, xs)) (hs : a.eval s = v)
    (z : Int) (c : Nat) (hx : a.eval x = .slice (some ⟨W.heap.size, 0, none⟩) 1 c) (hn : n ≤ 1000000) (hbase : base ≤ W.heap.size)
    (h : ∀ g cap w', Bun w' base (l.set j (3, 1, .slice (some ⟨g, 0, none⟩) (n + 1) cap, n + 1, xs ++ [.int .i64 z])) → Only (fun k => base ≤ k) W w' →
      wpList Try.prog ops Q rest (a.put o.dst (.slice (some ⟨g, 0, none⟩) (n + 1) cap)) w') : wpList Try.prog ops Q (o :: rest) a (W.alloc (.cells #[.int .i64 z] 3)) := by
  obtain ⟨i0, hi, hz0, hz1, hz2⟩ := info_parts info_int
  exact wpList_append1 hgd s x 28 ho base 3 i0 (.int .i64 0) 1 8 Try.underlying28 hi hz0 hz1 hz2 rfl (by decide) l hB j v n xs hj hs [.int .i64 z] c _ rfl hx rfl (by simp [Value.oneCell']) (by unfold maxLen; omega) (by omega) hbase h
theorem append1_two {W : World} {ops : Array Oper} {rest : List Oper} {o : Oper} {a : Act} {Q : Exit → Act → World → Prop} (hgd : o.guard = none) (s x : Operand)
    (ho : o.op = .call { callee := .builtin .append, args := #[s, x], argTypes := #[29, 29] })
    (base : Nat) (l : List RowD) (hB : Bun W base l) (j : Nat) (v : Value) (n : Nat) (xs : List Value) (hj : l[j]? = some (36, 2, v, n, xs)) (hs : a.eval s = v)
    (y z : Int) (c : Nat) (hx : a.eval x = .slice (some ⟨W.heap.size, 0, none⟩) 1 c) (hn : n ≤ 1000000) (hbase : base ≤ W.heap.size)
    (h : ∀ g cap w', Bun w' base (l.set j (36, 2, .slice (some ⟨g, 0, none⟩) (n + 1) cap, n + 1, xs ++ [.int .i64 y, .int .i64 z])) → Only (fun k => base ≤ k) W w' →
      wpList Try.prog ops Q rest (a.put o.dst (.slice (some ⟨g, 0, none⟩) (n + 1) cap)) w') : wpList Try.prog ops Q (o :: rest) a (W.alloc (.cells #[.int .i64 y, .int .i64 z] 36)) := by
  obtain ⟨i0, hi, hz0, hz1, hz2⟩ := info_parts info_two
  exact wpList_append1 hgd s x 29 ho base 36 i0 (.agg #[.int .i64 0, .int .i64 0]) 2 16 Try.underlying29 hi hz0 hz1 hz2 rfl (by decide) l hB j v n xs hj hs [.int .i64 y, .int .i64 z] c _ rfl hx rfl (by simp [Value.oneCell']) (by unfold maxLen; omega) (by omega) hbase h

end Go.Proofs.Ytpegbplppfbomaa
