/- The methods of package call, one contract each (int). No statement is proved here. -/
import Derived.Test.YtpegbplppfbomaaBase
namespace Go.Proofs.Ytpegbplppfbomaa
open Go.RowKit

/-- An asker, an answerer in block b. -/
def AskI (w : World) (b : Nat) (s x : Int) (wt : Bool) : Prop := Blk w b #[.int .u32 s, .int .i64 x, .bool wt] 102
def AnsI (w : World) (b : Nat) (s x : Int) : Prop := Blk w b #[.int .u32 s, .int .i64 x] 104

theorem AskI.facts {w : World} {b : Nat} {s x : Int} {wt : Bool} (h : AskI w b s x wt) :
    (w.cell? ⟨b, 0, none⟩ = some (.int .u32 s) ∧ w.cell? ⟨b, 1, none⟩ = some (.int .i64 x) ∧ w.cell? ⟨b, 2, none⟩ = some (.bool wt)) ∧
    w.frozen? ⟨b, 0, none⟩ = false ∧ w.frozen? ⟨b, 1, none⟩ = false ∧ w.frozen? ⟨b, 2, none⟩ = false :=
  ⟨⟨Blk.cell h 0 _ rfl, Blk.cell h 1 _ rfl, Blk.cell h 2 _ rfl⟩, Blk.free h 0, Blk.free h 1, Blk.free h 2⟩
theorem AnsI.facts {w : World} {b : Nat} {s x : Int} (h : AnsI w b s x) :
    (w.cell? ⟨b, 0, none⟩ = some (.int .u32 s) ∧ w.cell? ⟨b, 1, none⟩ = some (.int .i64 x)) ∧ w.frozen? ⟨b, 0, none⟩ = false ∧ w.frozen? ⟨b, 1, none⟩ = false :=
  ⟨⟨Blk.cell h 0 _ rfl, Blk.cell h 1 _ rfl⟩, Blk.free h 0, Blk.free h 1⟩

theorem newAsker_c (w : World) : Calls Try.prog 12 #[] w fun e w' => e = .returned (.pointer (some ⟨w.heap.size, 0, none⟩)) ∧ w' = w.alloc (.cells #[.int .u32 0, .int .i64 0, .bool false] 102) := by
  go_enter Try.func12, Try.ntmps12
  go_wp2
  go_ret
  exact ⟨rfl, rfl⟩
theorem newAnswerer_c (w : World) : Calls Try.prog 13 #[] w fun e w' => e = .returned (.pointer (some ⟨w.heap.size, 0, none⟩)) ∧ w' = w.alloc (.cells #[.int .u32 0, .int .i64 0] 104) := by
  go_enter Try.func13, Try.ntmps13
  go_wp2
  go_ret
  exact ⟨rfl, rfl⟩

def askR (s : Int) (wt : Bool) : Int × Int := if wt = true then (0, 12) else if s = 4294967295 then (0, 8) else (s + 1, 0)
def askS (s x : Int) (wt : Bool) (n : Int) : Int × Int × Bool := if wt = true then (s, x, wt) else if s = 4294967295 then (s, x, wt) else (s + 1, n, true)

theorem ask_wait (b : Nat) (s x n : Int) (w : World) (h : AskI w b s x true) :
    Calls Try.prog 14 #[.pointer (some ⟨b, 0, none⟩), .int .i64 n] w fun e w' => e = .returned (.tuple #[.int .u32 0, .int .i64 12]) ∧ w = w' := by
  obtain ⟨⟨c0, c1, c2⟩, f0, f1, f2⟩ := h.facts
  go_enter Try.func14, Try.ntmps14
  go_wp2
  go_ret2
  exact ⟨rfl, rfl⟩
theorem ask_full (b : Nat) (x n : Int) (w : World) (h : AskI w b 4294967295 x false) :
    Calls Try.prog 14 #[.pointer (some ⟨b, 0, none⟩), .int .i64 n] w fun e w' => e = .returned (.tuple #[.int .u32 0, .int .i64 8]) ∧ w = w' := by
  obtain ⟨⟨c0, c1, c2⟩, f0, f1, f2⟩ := h.facts
  go_enter Try.func14, Try.ntmps14
  go_wp2
  go_ret2
  exact ⟨rfl, rfl⟩
theorem ask_ok (b : Nat) (s x n : Int) (w : World) (h : AskI w b s x false) (h0 : 0 ≤ s) (h1 : s < 4294967295) :
    Calls Try.prog 14 #[.pointer (some ⟨b, 0, none⟩), .int .i64 n] w fun e w' => e = .returned (.tuple #[.int .u32 (s + 1), .int .i64 0]) ∧
      ((w.setCell ⟨b, 2, none⟩ (.bool true)).setCell ⟨b, 0, none⟩ (.int .u32 (s + 1))).setCell ⟨b, 1, none⟩ (.int .i64 n) = w' := by
  obtain ⟨⟨c0, c1, c2⟩, f0, f1, f2⟩ := h.facts
  have hne : (s == 4294967295) = false := by simp; omega
  go_enter Try.func14, Try.ntmps14
  go_wp2
  go_ret2
  exact ⟨rfl, rfl⟩
theorem ask_c (b : Nat) (s x n : Int) (wt : Bool) (w : World) (h : AskI w b s x wt) (h0 : 0 ≤ s) (h1 : s ≤ 4294967295) :
    Calls Try.prog 14 #[.pointer (some ⟨b, 0, none⟩), .int .i64 n] w fun e w' => e = .returned (.tuple #[.int .u32 (askR s wt).1, .int .i64 (askR s wt).2]) ∧
      AskI w' b (askS s x wt n).1 (askS s x wt n).2.1 (askS s x wt n).2.2 ∧ Only (· = b) w w' := by
  cases wt with
  | true => exact (ask_wait b s x n w h).mono fun e w' ⟨he, hw⟩ => by subst hw; exact ⟨he, h, Only.refl _ _⟩
  | false =>
    by_cases hs : s = 4294967295
    · subst hs; exact (ask_full b x n w h).mono fun e w' ⟨he, hw⟩ => by subst hw; exact ⟨he, h, Only.refl _ _⟩
    · refine (ask_ok b s x n w h h0 (by omega)).mono fun e w' ⟨he, hw⟩ => ?_
      subst hw
      refine ⟨by rw [he]; simp [askR, hs], ?_, (((Only.refl _ _).set1 _ _).set1 _ _).set1 _ _⟩
      have := ((Blk.set h 2 (.bool true)).set 0 (.int .u32 (s + 1))).set 1 (.int .i64 n)
      simpa [askS, hs, AskI] using this

theorem ask_yes (b : Nat) (s x n : Int) (w : World) (h : AskI w b s x false) (h0 : 0 ≤ s) (h1 : s < 4294967295) :
    Calls Try.prog 14 #[.pointer (some ⟨b, 0, none⟩), .int .i64 n] w fun e w' => e = .returned (.tuple #[.int .u32 (s + 1), .int .i64 0]) ∧ AskI w' b (s + 1) n true ∧ Only (· = b) w w' := by
  refine (ask_ok b s x n w h h0 h1).mono fun e w' ⟨he, hw⟩ => ?_
  subst hw
  refine ⟨he, ?_, (((Only.refl _ _).set1 _ _).set1 _ _).set1 _ _⟩
  have := ((Blk.set h 2 (.bool true)).set 0 (.int .u32 (s + 1))).set 1 (.int .i64 n)
  simpa [AskI] using this
def pq (wt : Bool) (s : Int) : Int := if wt = true then s else 0
theorem pending_no (b : Nat) (s x : Int) (w : World) (h : AskI w b s x false) :
    Calls Try.prog 15 #[.pointer (some ⟨b, 0, none⟩)] w fun e w' => e = .returned (.tuple #[.int .u32 0, .int .i64 0, .bool false]) ∧ ∃ n, w.drewN n = w' := by
  obtain ⟨⟨c0, c1, c2⟩, f0, f1, f2⟩ := h.facts
  go_enter Try.func15, Try.ntmps15
  go_wp2
  go_ret3
  exact ⟨rfl, 0, rfl⟩
theorem pending_yes (b : Nat) (s x : Int) (w : World) (h : AskI w b s x true) :
    Calls Try.prog 15 #[.pointer (some ⟨b, 0, none⟩)] w fun e w' => e = .returned (.tuple #[.int .u32 s, .int .i64 x, .bool true]) ∧ ∃ n, w.drewN n = w' := by
  obtain ⟨⟨c0, c1, c2⟩, f0, f1, f2⟩ := h.facts
  go_enter Try.func15, Try.ntmps15
  go_wp2
  go_quiet (fail)
  go_wp2
  go_ret3
  exact ⟨rfl, _, rfl⟩
theorem pending_c (b : Nat) (s x : Int) (wt : Bool) (w : World) (h : AskI w b s x wt) :
    Calls Try.prog 15 #[.pointer (some ⟨b, 0, none⟩)] w fun e w' => e = .returned (.tuple #[.int .u32 (pq wt s), .int .i64 (pq wt x), .bool wt]) ∧ ∃ n, w.drewN n = w' := by
  cases wt
  · exact pending_no b s x w h
  · exact pending_yes b s x w h

def takeE (t : Bool) : Int := if t = true then 0 else 9
def takeR (s : Int) (wt : Bool) (q : Int) : Bool := wt && q == s
theorem take_no (b : Nat) (s x q : Int) (wt : Bool) (w : World) (h : AskI w b s x wt) (hq : takeR s wt q = false) :
    Calls Try.prog 18 #[.pointer (some ⟨b, 0, none⟩), .int .u32 q] w fun e w' => e = .returned (.int .i64 9) ∧ w = w' := by
  obtain ⟨⟨c0, c1, c2⟩, f0, f1, f2⟩ := h.facts
  cases wt with
  | false =>
    go_enter Try.func18, Try.ntmps18
    go_wp2
    go_ret
    exact ⟨rfl, rfl⟩
  | true =>
    have hne : (q != s) = true := by simpa [takeR] using hq
    go_enter Try.func18, Try.ntmps18
    go_wp2
    go_ret
    exact ⟨rfl, rfl⟩
theorem take_yes (b : Nat) (s x : Int) (w : World) (h : AskI w b s x true) :
    Calls Try.prog 18 #[.pointer (some ⟨b, 0, none⟩), .int .u32 s] w fun e w' => e = .returned (.int .i64 0) ∧ w.setCell ⟨b, 2, none⟩ (.bool false) = w' := by
  obtain ⟨⟨c0, c1, c2⟩, f0, f1, f2⟩ := h.facts
  go_enter Try.func18, Try.ntmps18
  go_wp2
  go_ret
  exact ⟨rfl, rfl⟩
theorem take_c (b : Nat) (s x q : Int) (wt : Bool) (w : World) (h : AskI w b s x wt) :
    Calls Try.prog 18 #[.pointer (some ⟨b, 0, none⟩), .int .u32 q] w fun e w' => e = .returned (.int .i64 (takeE (takeR s wt q))) ∧
      AskI w' b s x (wt && !takeR s wt q) ∧ Only (· = b) w w' := by
  by_cases hq : takeR s wt q = true
  · have hw : wt = true := by simp [takeR] at hq; exact hq.1
    have hs : q = s := by simp [takeR] at hq; exact hq.2
    subst hw; subst hs
    refine (take_yes b q x w h).mono fun e w' ⟨he, hw⟩ => ?_
    subst hw
    refine ⟨by rw [he]; simp [takeE, hq], ?_, (Only.refl _ _).set1 _ _⟩
    have := Blk.set h 2 (.bool false)
    simpa [hq, AskI] using this
  · have hq' : takeR s wt q = false := by simpa using hq
    exact (take_no b s x q wt w h hq').mono fun e w' ⟨he, hw⟩ => by subst hw; exact ⟨by rw [he]; simp [takeE, hq'], by simpa [hq'] using h, Only.refl _ _⟩

theorem acount_c (b : Nat) (s x : Int) (wt : Bool) (w : World) (h : AskI w b s x wt) :
    Calls Try.prog 29 #[.pointer (some ⟨b, 0, none⟩)] w fun e w' => e = .returned (.int .u32 s) ∧ w = w' := by
  obtain ⟨⟨c0, c1, c2⟩, f0, f1, f2⟩ := h.facts
  go_enter Try.func29, Try.ntmps29
  go_wp2
  go_ret
  exact ⟨rfl, rfl⟩
theorem bcount_c (b : Nat) (s x : Int) (w : World) (h : AnsI w b s x) :
    Calls Try.prog 30 #[.pointer (some ⟨b, 0, none⟩)] w fun e w' => e = .returned (.int .u32 s) ∧ w = w' := by
  obtain ⟨⟨c0, c1⟩, f0, f1⟩ := h.facts
  go_enter Try.func30, Try.ntmps30
  go_wp2
  go_ret
  exact ⟨rfl, rfl⟩

/-- Is q the number behind s? -/
def nextB (s q : Int) : Bool := decide (s < 4294967295) && q == s + 1
theorem follows_c (b : Nat) (s x q : Int) (w : World) (h : AnsI w b s x) (h0 : 0 ≤ s) :
    Calls Try.prog 57 #[.pointer (some ⟨b, 0, none⟩), .int .u32 q] w fun e w' => e = .returned (.bool (nextB s q)) ∧ w = w' := by
  obtain ⟨⟨c0, c1⟩, f0, f1⟩ := h.facts
  by_cases hs : s < 4294967295
  · have hn : nextB s q = (q == s + 1) := by simp [nextB, hs]
    rw [hn]
    go_enter Try.func57, Try.ntmps57
    go_wp2
    go_ret
    exact ⟨rfl, rfl⟩
  · have hn : nextB s q = false := by simp [nextB, hs]
    rw [hn]
    go_enter Try.func57, Try.ntmps57
    go_wp2
    go_ret
    exact ⟨rfl, rfl⟩
def hearR (s x q : Int) : Int × Int := if nextB s q = true then (0, 1) else if q = s ∧ 0 < q then (x, 2) else (0, 0)
theorem hear_c (b : Nat) (s x q : Int) (w : World) (h : AnsI w b s x) (h0 : 0 ≤ s) :
    Calls Try.prog 16 #[.pointer (some ⟨b, 0, none⟩), .int .u32 q] w fun e w' => e = .returned (.tuple #[.int .i64 (hearR s x q).1, .int .i64 (hearR s x q).2]) ∧ w = w' := by
  obtain ⟨⟨c0, c1⟩, f0, f1⟩ := h.facts
  have hf := follows_c b s x q w h h0
  by_cases hn : nextB s q = true
  · rw [hn] at hf
    have hr : hearR s x q = (0, 1) := by simp [hearR, hn]
    rw [hr]; clear hr hn
    go_enter Try.func16, Try.ntmps16
    go_wp2_with (go_at_call 57; refine hf.mono ?_; rintro e w' ⟨rfl, rfl⟩)
    go_ret2
    exact ⟨rfl, rfl⟩
  · have hn' : nextB s q = false := by simpa using hn
    rw [hn'] at hf
    by_cases hq : q = s
    · subst hq
      by_cases hp : 0 < q
      · have hr : hearR q x q = (x, 2) := by simp [hearR, hn', hp]
        rw [hr]; clear hr hn hn'
        go_enter Try.func16, Try.ntmps16
        go_wp2_with (go_at_call 57; refine hf.mono ?_; rintro e w' ⟨rfl, rfl⟩)
        go_ret2
        exact ⟨rfl, rfl⟩
      · have hr : hearR q x q = (0, 0) := by simp [hearR, hn', hp]
        rw [hr]; clear hr hn hn'
        go_enter Try.func16, Try.ntmps16
        go_wp2_with (go_at_call 57; refine hf.mono ?_; rintro e w' ⟨rfl, rfl⟩)
        go_ret2
        exact ⟨rfl, rfl⟩
    · have hr : hearR s x q = (0, 0) := by simp [hearR, hn', hq]
      have hq' : (q == s) = false := by simpa using hq
      rw [hr]; clear hr hn hn' hq
      go_enter Try.func16, Try.ntmps16
      go_wp2_with (go_at_call 57; refine hf.mono ?_; rintro e w' ⟨rfl, rfl⟩)
      go_ret2
      exact ⟨rfl, rfl⟩
theorem answer_c (b : Nat) (s x q n : Int) (w : World) (h : AnsI w b s x) (h0 : 0 ≤ s) :
    Calls Try.prog 17 #[.pointer (some ⟨b, 0, none⟩), .int .u32 q, .int .i64 n] w fun e w' => e = .returned (.int .i64 (takeE (nextB s q))) ∧
      AnsI w' b (if nextB s q = true then s + 1 else s) (if nextB s q = true then n else x) ∧ Only (· = b) w w' := by
  obtain ⟨⟨c0, c1⟩, f0, f1⟩ := h.facts
  have hf := follows_c b s x q w h h0
  have key : ∀ r, nextB s q = r → Calls Try.prog 17 #[.pointer (some ⟨b, 0, none⟩), .int .u32 q, .int .i64 n] w fun e w' => e = .returned (.int .i64 (takeE r)) ∧
      (if r = true then (w.setCell ⟨b, 0, none⟩ (.int .u32 (s + 1))).setCell ⟨b, 1, none⟩ (.int .i64 n) else w) = w' := by
    intro r hr
    cases r with
    | true =>
      rw [hr] at hf
      have hs : s < 4294967295 := by simp [nextB] at hr; exact hr.1
      clear hr
      go_enter Try.func17, Try.ntmps17
      go_wp2_with (go_at_call 57; refine hf.mono ?_; rintro e w' ⟨rfl, rfl⟩)
      go_wp2
      go_ret
      exact ⟨rfl, rfl⟩
    | false =>
      rw [hr] at hf
      clear hr
      go_enter Try.func17, Try.ntmps17
      go_wp2_with (go_at_call 57; refine hf.mono ?_; rintro e w' ⟨rfl, rfl⟩)
      go_ret
      exact ⟨rfl, rfl⟩
  refine (key _ rfl).mono fun e w' ⟨he, hw⟩ => ⟨he, ?_⟩
  subst hw
  by_cases hn : nextB s q = true
  · simp only [hn, if_true]
    refine ⟨?_, ((Only.refl _ _).set1 _ _).set1 _ _⟩
    have := (Blk.set h 0 (.int .u32 (s + 1))).set 1 (.int .i64 n)
    simpa [AnsI] using this
  · simp only [hn]
    exact ⟨by simpa using h, Only.refl _ _⟩

theorem hear_at (b : Nat) (s x q r0 r1 : Int) (w : World) (h : AnsI w b s x) (h0 : 0 ≤ s) (hr : hearR s x q = (r0, r1)) :
    Calls Try.prog 16 #[.pointer (some ⟨b, 0, none⟩), .int .u32 q] w fun e w' => e = .returned (.tuple #[.int .i64 r0, .int .i64 r1]) ∧ w = w' := by
  have := hear_c b s x q w h h0
  rw [hr] at this
  exact this
theorem hear_fresh (b : Nat) (s x q : Int) (w : World) (h : AnsI w b s x) (h0 : 0 ≤ s) (hq : q = s + 1) (hs : s < 4294967295) :
    Calls Try.prog 16 #[.pointer (some ⟨b, 0, none⟩), .int .u32 q] w fun e w' => e = .returned (.tuple #[.int .i64 0, .int .i64 1]) ∧ w = w' :=
  hear_at b s x q 0 1 w h h0 (by simp [hearR, nextB, hq]; omega)
theorem hear_again (b : Nat) (s x q : Int) (w : World) (h : AnsI w b s x) (h0 : 0 ≤ s) (hq : q = s) (hs : 0 < q) :
    Calls Try.prog 16 #[.pointer (some ⟨b, 0, none⟩), .int .u32 q] w fun e w' => e = .returned (.tuple #[.int .i64 x, .int .i64 2]) ∧ w = w' :=
  hear_at b s x q x 2 w h h0 (by subst hq; have : nextB q q = false := by simp [nextB]; omega
                                 simp [hearR, this, hs])
theorem hear_stale (b : Nat) (s x q : Int) (w : World) (h : AnsI w b s x) (h0 : 0 ≤ s) (hq : q ≠ s) (hs : q ≠ s + 1) :
    Calls Try.prog 16 #[.pointer (some ⟨b, 0, none⟩), .int .u32 q] w fun e w' => e = .returned (.tuple #[.int .i64 0, .int .i64 0]) ∧ w = w' :=
  hear_at b s x q 0 0 w h h0 (by have : nextB s q = false := by simp [nextB, hs]
                                 simp [hearR, this, hq])
theorem answer_yes (b : Nat) (s x q n : Int) (w : World) (h : AnsI w b s x) (h0 : 0 ≤ s) (hq : q = s + 1) (h1 : s < 4294967295) :
    Calls Try.prog 17 #[.pointer (some ⟨b, 0, none⟩), .int .u32 q, .int .i64 n] w fun e w' => e = .returned (.int .i64 0) ∧ AnsI w' b (s + 1) n ∧ Only (· = b) w w' := by
  have hb : nextB s q = true := by simp [nextB, hq, h1]
  have := answer_c b s x q n w h h0
  rw [hb] at this
  exact this
theorem take_at (b : Nat) (s x q : Int) (wt : Bool) (w : World) (h : AskI w b s x wt) (hq : takeR s wt q = false) :
    Calls Try.prog 18 #[.pointer (some ⟨b, 0, none⟩), .int .u32 q] w fun e w' => e = .returned (.int .i64 9) ∧ w = w' := take_no b s x q wt w h hq
theorem take_ok (b : Nat) (s x q : Int) (w : World) (h : AskI w b s x true) (hq : q = s) :
    Calls Try.prog 18 #[.pointer (some ⟨b, 0, none⟩), .int .u32 q] w fun e w' => e = .returned (.int .i64 0) ∧ AskI w' b s x false ∧ Only (· = b) w w' := by
  subst hq
  have := take_c b q x q true w h
  have hb : takeR q true q = true := by simp [takeR]
  rw [hb] at this
  exact this
/-- The methods on nil. -/
theorem ask_nil (n : Int) (w : World) : Calls Try.prog 14 #[.pointer none, .int .i64 n] w fun e w' => e = .returned (.tuple #[.int .u32 0, .int .i64 1]) ∧ w = w' := by
  go_enter Try.func14, Try.ntmps14
  go_wp2
  go_ret2
  exact ⟨rfl, rfl⟩
theorem pending_nil (w : World) : Calls Try.prog 15 #[.pointer none] w fun e w' => e = .returned (.tuple #[.int .u32 0, .int .i64 0, .bool false]) ∧ w = w' := by
  go_enter Try.func15, Try.ntmps15
  go_wp2
  go_ret3
  exact ⟨rfl, rfl⟩
theorem hear_nil (q : Int) (w : World) : Calls Try.prog 16 #[.pointer none, .int .u32 q] w fun e w' => e = .returned (.tuple #[.int .i64 0, .int .i64 0]) ∧ w = w' := by
  go_enter Try.func16, Try.ntmps16
  go_wp2
  go_ret2
  exact ⟨rfl, rfl⟩
theorem take_nil (q : Int) (w : World) : Calls Try.prog 18 #[.pointer none, .int .u32 q] w fun e w' => e = .returned (.int .i64 1) ∧ w = w' := by
  go_enter Try.func18, Try.ntmps18
  go_wp2
  go_ret
  exact ⟨rfl, rfl⟩
theorem answer_nil (q n : Int) (w : World) : Calls Try.prog 17 #[.pointer none, .int .u32 q, .int .i64 n] w fun e w' => e = .returned (.int .i64 1) ∧ w = w' := by
  go_enter Try.func17, Try.ntmps17
  go_wp2
  go_ret
  exact ⟨rfl, rfl⟩
theorem acount_nil (w : World) : Calls Try.prog 29 #[.pointer none] w fun e w' => e = .returned (.int .u32 0) ∧ w = w' := by
  go_enter Try.func29, Try.ntmps29
  go_wp2
  go_ret
  exact ⟨rfl, rfl⟩
theorem bcount_nil (w : World) : Calls Try.prog 30 #[.pointer none] w fun e w' => e = .returned (.int .u32 0) ∧ w = w' := by
  go_enter Try.func30, Try.ntmps30
  go_wp2
  go_ret
  exact ⟨rfl, rfl⟩
end Go.Proofs.Ytpegbplppfbomaa
