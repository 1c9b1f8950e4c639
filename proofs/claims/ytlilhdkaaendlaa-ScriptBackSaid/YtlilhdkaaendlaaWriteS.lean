/- What a setup and its events are as a text: plain. Small callees of Write, both. No statement is proved here. -/
import Derived.Test.YtlilhdkaaendlaaLinesA
import Derived.Test.YtlilhdkaaendlaaSetup

namespace Go.Proofs.Ytlilhdkaaendlaa
open Go.RowKit

structure Su.In (s : Su) : Prop where
  n : -9223372036854775808 ≤ s.n ∧ s.n ≤ 9223372036854775807
  room : -9223372036854775808 ≤ s.room ∧ s.room ≤ 9223372036854775807
  budget : -9223372036854775808 ≤ s.budget ∧ s.budget ≤ 9223372036854775807
  seed : 0 ≤ s.seed ∧ s.seed ≤ 18446744073709551615
  pairs : ∀ p ∈ s.pairs, (0 ≤ p.1 ∧ p.1 ≤ 255) ∧ (0 ≤ p.2 ∧ p.2 ≤ 255)
def ansW (b : Bool) : List UInt8 := if b = true then [121, 101, 115] else [110, 111]
def hdW (n : Int) : List UInt8 := Lib.join [[114, 101, 112, 108, 105, 99, 97, 115], printM n] [32]
def jnW (p : Int × Int) : List UInt8 := Lib.join [[106, 111, 105, 110], printM p.1, printM p.2] [32]
def rlW (s : Su) : List UInt8 := Lib.join [[114, 117, 108, 101, 115], ansW s.back, ansW s.red, printM s.room, printM s.budget, printM s.seed] [32]
def withinB (n least most : Int) : Bool := decide (least ≤ n ∧ n ≤ most)
def okSu (s : Su) : Bool := withinB s.n 1 16 && withinB s.room 0 2147483647 && withinB s.budget 0 2147483647 && decide (s.seed ≤ 9223372036854775807)
def evErr : List Ev → Int
  | [] => 0
  | e :: l => if (lineM e).2 = 0 then evErr l else (lineM e).2
def headsW (s : Su) : List (List UInt8) := hdW s.n :: s.pairs.map jnW ++ [rlW s]
def linesW (s : Su) (l : List Ev) : List (List UInt8) := headsW s ++ l.map fun e => (lineM e).1
def fedW (l : List (List UInt8)) : List UInt8 := l.flatMap (· ++ [10])
def writeM (s : Su) (l : List Ev) : List UInt8 × Int := if okSu s = true then (if evErr l = 0 then (fedW (linesW s l), 0) else ([], evErr l)) else ([], 1)
theorem fedW_snoc (l : List (List UInt8)) (x : List UInt8) : fedW (l ++ [x]) = fedW l ++ x ++ [10] := by simp [fedW]
theorem join_fed : ∀ (l : List (List UInt8)), l ≠ [] → Lib.join l [10] ++ [10] = fedW l
  | [], h => absurd rfl h
  | [a], _ => by simp [Lib.join, fedW, List.intercalate, List.intersperse]
  | a :: b :: l, _ => by
    have := join_fed (b :: l) (by simp)
    have e : Lib.join (a :: b :: l) [10] = a ++ [10] ++ Lib.join (b :: l) [10] := by simp [Lib.join, List.intercalate, List.intersperse]
    have e2 : fedW (a :: b :: l) = a ++ [10] ++ fedW (b :: l) := by simp [fedW]
    rw [e, e2, ← this]
    simp
theorem evErr_take (l : List Ev) : ∀ (i : Nat), evErr (l.take i) = 0 → (h : i < l.length) → evErr l = if (lineM l[i]).2 = 0 then evErr (l.drop i) else (lineM l[i]).2 := by
  induction l with
  | nil => intro i _ h; simp at h
  | cons e l ih =>
    intro i hi h
    cases i with
    | zero =>
      show (if (lineM e).2 = 0 then evErr l else (lineM e).2) = if (lineM e).2 = 0 then evErr (e :: l) else (lineM e).2
      by_cases h0 : (lineM e).2 = 0
      · rw [if_pos h0, if_pos h0]
        show _ = if (lineM e).2 = 0 then evErr l else (lineM e).2
        rw [if_pos h0]
      · rw [if_neg h0, if_neg h0]
    | succ i =>
      have h1 : (if (lineM e).2 = 0 then evErr (l.take i) else (lineM e).2) = 0 := hi
      by_cases h0 : (lineM e).2 = 0
      · rw [if_pos h0] at h1
        have := ih i h1 (by simpa using h)
        show (if (lineM e).2 = 0 then evErr l else (lineM e).2) = _
        rw [if_pos h0, this]
        rfl
      · rw [if_neg h0] at h1
        exact absurd h1 h0
theorem evErr_snoc (l : List Ev) (i : Nat) (h : i < l.length) (h0 : evErr (l.take i) = 0) (h1 : (lineM l[i]).2 = 0) : evErr (l.take (i + 1)) = 0 := by
  have key : ∀ (m : List Ev) (e : Ev), evErr m = 0 → (lineM e).2 = 0 → evErr (m ++ [e]) = 0 := by
    intro m e
    induction m with
    | nil => intro _ h; show (if (lineM e).2 = 0 then evErr [] else (lineM e).2) = 0; rw [if_pos h]; rfl
    | cons a m ih =>
      intro hm he
      have hm' : (if (lineM a).2 = 0 then evErr m else (lineM a).2) = 0 := hm
      show (if (lineM a).2 = 0 then evErr (m ++ [e]) else (lineM a).2) = 0
      by_cases ha : (lineM a).2 = 0
      · rw [if_pos ha] at hm' ⊢
        exact ih hm' he
      · rw [if_neg ha] at hm'
        exact absurd hm' ha
  rw [List.take_succ_eq_append_getElem h]
  exact key _ _ h0 h1
theorem evErr_bad (l : List Ev) (i : Nat) (h : i < l.length) (h0 : evErr (l.take i) = 0) (h1 : (lineM l[i]).2 ≠ 0) : evErr l = (lineM l[i]).2 := by
  rw [evErr_take l i h0 h, if_neg h1]
def toB (l : List UInt8) : ByteArray := ⟨l.toArray⟩
theorem toB_list (l : List UInt8) : (toB l).data.toList = l := by simp [toB]
def strsB (l : List (List UInt8)) : List ByteArray := l.map toB
theorem strsB_list (l : List (List UInt8)) : (strsB l).map (fun p => p.data.toList) = l := by
  unfold strsB
  rw [List.map_map]
  conv => rhs; rw [← List.map_id l]
  exact List.map_congr_left fun x _ => toB_list x
def strsV (l : List (List UInt8)) : List Value := l.map fun x => Value.string (toB x)
theorem strsV_len (l : List (List UInt8)) : (strsV l).length = l.length := by simp [strsV]
theorem strsV_snoc (l : List (List UInt8)) (x : List UInt8) : strsV (l ++ [x]) = strsV l ++ [Value.string (toB x)] := by simp [strsV]
/-- The value v is a slice of events that read as es. -/
def EvS (w : World) (v : Value) (es : List (Ev × Value)) : Prop := ∃ (a : Option Addr) (cap : Nat), v = .slice a es.length cap ∧ es.length ≤ cap ∧ (∀ i (h : i < es.length), ∃ b off, a = some ⟨b, off, none⟩ ∧ b < w.heap.size ∧ w.rangeAt b (off + i * 25) (evL es[i].1 es[i].2)) ∧
  ∀ x ∈ es, x.1.In ∧ Sees w x.2 (bys x.1.data)
theorem EvS.no {w w' : World} {v : Value} {es : List (Ev × Value)} (h : EvS w v es) (ho : Only No w w') : EvS w' v es := by
  obtain ⟨a, cap, rfl, hc, hf, hs⟩ := h
  refine ⟨a, cap, rfl, hc, fun i hi => ?_, fun x hx => ⟨(hs x hx).1, (hs x hx).2.no ho⟩⟩
  obtain ⟨b, off, rfl, hb, hr⟩ := hf i hi
  exact ⟨b, off, rfl, Nat.lt_of_lt_of_le hb ho.size, fun j v hv => (ho.cell (p := ⟨b, off + i * 25 + j, none⟩) hb id).trans (hr j v hv)⟩
end Go.Proofs.Ytlilhdkaaendlaa

namespace Go.Proofs.Ytlilhdkaaendlaa
open Go.RowKit

theorem within_c (n least most : Int) (w : World) : Calls Try.prog 47 #[.int .i64 n, .int .i64 least, .int .i64 most] w fun x w' => x = .returned (.bool (withinB n least most)) ∧ w = w' := by
  unfold withinB
  by_cases h1 : least ≤ n
  · by_cases h2 : n ≤ most
    · have d1 : decide (least ≤ n) = true := decide_eq_true h1
      have d2 : decide (n ≤ most) = true := decide_eq_true h2
      rw [decide_eq_true ⟨h1, h2⟩]
      go_enter Try.func47, Try.ntmps47
      go_wp2
      go_ret
      exact ⟨rfl, rfl⟩
    · have d1 : decide (least ≤ n) = true := decide_eq_true h1
      have d2 : decide (n ≤ most) = false := decide_eq_false h2
      rw [decide_eq_false (fun h => h2 h.2)]
      go_enter Try.func47, Try.ntmps47
      go_wp2
      go_ret
      exact ⟨rfl, rfl⟩
  · have d1 : decide (least ≤ n) = false := decide_eq_false h1
    rw [decide_eq_false (fun h => h1 h.1)]
    go_enter Try.func47, Try.ntmps47
    go_wp2
    go_ret
    exact ⟨rfl, rfl⟩
theorem ans_c (b : Bool) (w : World) : Calls Try.prog 48 #[.bool b] w fun x w' => x = .returned (.string (toB (ansW b))) ∧ w = w' := by
  cases b <;>
  · go_enter Try.func48, Try.ntmps48
    go_wp2
    go_ret
    exact ⟨rfl, rfl⟩
theorem rans_c (b : Bool) (w : World) : Calls Try.prog 53 #[.bool b] w fun x w' => x = .returned (.string (toB (ansW b))) ∧ w = w' := by
  cases b <;>
  · go_enter Try.func53, Try.ntmps53
    go_wp2
    go_ret
    exact ⟨rfl, rfl⟩
theorem toB_size (l : List UInt8) : (toB l).size = l.length := by simp [toB, ByteArray.size]
/-- A line of few short words. -/
theorem line2_c (W : World) (ws : List (List UInt8)) (hp : 0 < ws.length) (hn : ws.length ≤ 10) (hs : ∀ p ∈ ws, p.length ≤ 3000) :
    Calls Try.prog 49 #[.slice (some ⟨W.heap.size, 0, none⟩) ws.length ws.length] (W.alloc (.cells (strsV ws).toArray 9)) fun x w' => x = .returned (.string (toB (Lib.join ws [32]))) ∧ Only No W w' := by
  have h := line_new W (strsB ws) (by simpa [strsB] using hp) (by simpa [strsB] using hn) (fun p hp => by
    obtain ⟨l, hl, rfl⟩ := List.mem_map.1 hp
    rw [toB_size]
    exact hs l hl)
  have e1 : (strsB ws).length = ws.length := by simp [strsB]
  have e2 : (strsB ws).map Value.string = strsV ws := by simp [strsB, strsV]
  rw [e1, e2, strsB_list] at h
  exact h
theorem prt_len (n : Int) (h0 : -9223372036854775808 ≤ n) (h1 : n ≤ 9223372036854775807) : (printM n).length ≤ 3000 := by
  have := printM_len n h0 h1
  omega
theorem strs_bytes {n : Nat} (l : List (List UInt8)) (h : l.length = n) : (strsV l).length = n * 1 := by rw [strsV_len, h, Nat.mul_one]
end Go.Proofs.Ytlilhdkaaendlaa
