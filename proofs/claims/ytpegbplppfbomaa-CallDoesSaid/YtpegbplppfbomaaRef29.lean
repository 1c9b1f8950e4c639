/- The reference of chapter 29, one contract a method. No statement is proved here. -/
import Derived.Test.YtpegbplppfbomaaCall
namespace Go.Proofs.Ytpegbplppfbomaa
open Go.RowKit

def RAskI (w : World) (b : Nat) (s : Int) (wt : Bool) (x : Int) : Prop := Blk w b #[.int .u32 s, .bool wt, .int .i64 x] 51
def RAnsI (w : World) (b : Nat) (s x : Int) : Prop := Blk w b #[.int .u32 s, .int .i64 x] 54
theorem RAskI.facts {w : World} {b : Nat} {s x : Int} {wt : Bool} (h : RAskI w b s wt x) :
    (w.cell? ⟨b, 0, none⟩ = some (.int .u32 s) ∧ w.cell? ⟨b, 1, none⟩ = some (.bool wt) ∧ w.cell? ⟨b, 2, none⟩ = some (.int .i64 x)) ∧
    w.frozen? ⟨b, 0, none⟩ = false ∧ w.frozen? ⟨b, 1, none⟩ = false ∧ w.frozen? ⟨b, 2, none⟩ = false :=
  ⟨⟨Blk.cell h 0 _ rfl, Blk.cell h 1 _ rfl, Blk.cell h 2 _ rfl⟩, Blk.free h 0, Blk.free h 1, Blk.free h 2⟩
theorem RAnsI.facts {w : World} {b : Nat} {s x : Int} (h : RAnsI w b s x) :
    (w.cell? ⟨b, 0, none⟩ = some (.int .u32 s) ∧ w.cell? ⟨b, 1, none⟩ = some (.int .i64 x)) ∧ w.frozen? ⟨b, 0, none⟩ = false ∧ w.frozen? ⟨b, 1, none⟩ = false :=
  ⟨⟨Blk.cell h 0 _ rfl, Blk.cell h 1 _ rfl⟩, Blk.free h 0, Blk.free h 1⟩

theorem rask_wait (b : Nat) (s x n : Int) (w : World) (h : RAskI w b s true x) :
    Calls Try.prog 24 #[.pointer (some ⟨b, 0, none⟩), .int .i64 n] w fun e w' => e = .returned (.tuple #[.int .u32 0, .int .i64 12]) ∧ w = w' := by
  obtain ⟨⟨c0, c1, c2⟩, f0, f1, f2⟩ := h.facts
  go_enter Try.func24, Try.ntmps24
  go_wp2
  go_ret2
  exact ⟨rfl, rfl⟩
theorem rask_full (b : Nat) (x n : Int) (w : World) (h : RAskI w b 4294967295 false x) :
    Calls Try.prog 24 #[.pointer (some ⟨b, 0, none⟩), .int .i64 n] w fun e w' => e = .returned (.tuple #[.int .u32 0, .int .i64 8]) ∧ w = w' := by
  obtain ⟨⟨c0, c1, c2⟩, f0, f1, f2⟩ := h.facts
  go_enter Try.func24, Try.ntmps24
  go_wp2
  go_ret2
  exact ⟨rfl, rfl⟩
theorem rask_ok (b : Nat) (s x n : Int) (w : World) (h : RAskI w b s false x) (h0 : 0 ≤ s) (h1 : s < 4294967295) :
    Calls Try.prog 24 #[.pointer (some ⟨b, 0, none⟩), .int .i64 n] w fun e w' => e = .returned (.tuple #[.int .u32 (s + 1), .int .i64 0]) ∧
      ((w.setCell ⟨b, 0, none⟩ (.int .u32 (s + 1))).setCell ⟨b, 1, none⟩ (.bool true)).setCell ⟨b, 2, none⟩ (.int .i64 n) = w' := by
  obtain ⟨⟨c0, c1, c2⟩, f0, f1, f2⟩ := h.facts
  have hne : (s == 4294967295) = false := by simp; omega
  go_enter Try.func24, Try.ntmps24
  go_wp2
  go_ret2
  exact ⟨rfl, rfl⟩
theorem rpending_c (b : Nat) (s x : Int) (wt : Bool) (w : World) (h : RAskI w b s wt x) :
    Calls Try.prog 28 #[.pointer (some ⟨b, 0, none⟩)] w fun e w' => e = .returned (.tuple #[.int .u32 (pq wt s), .int .i64 (pq wt x), .bool wt]) ∧ ∃ n, w.drewN n = w' := by
  obtain ⟨⟨c0, c1, c2⟩, f0, f1, f2⟩ := h.facts
  cases wt
  · go_enter Try.func28, Try.ntmps28
    go_wp2
    go_ret3
    exact ⟨rfl, 0, rfl⟩
  · go_enter Try.func28, Try.ntmps28
    go_wp2
    go_quiet (fail)
    go_wp2
    go_ret3
    exact ⟨rfl, _, rfl⟩
theorem rtake_yes (b : Nat) (s x : Int) (w : World) (h : RAskI w b s true x) :
    Calls Try.prog 25 #[.pointer (some ⟨b, 0, none⟩), .int .u32 s] w fun e w' => e = .returned (.int .i64 0) ∧ (w.setCell ⟨b, 1, none⟩ (.bool false)).setCell ⟨b, 2, none⟩ (.int .i64 0) = w' := by
  obtain ⟨⟨c0, c1, c2⟩, f0, f1, f2⟩ := h.facts
  go_enter Try.func25, Try.ntmps25
  go_wp2
  go_ret
  exact ⟨rfl, rfl⟩
theorem rask_c (b : Nat) (s x n : Int) (wt : Bool) (w : World) (h : RAskI w b s wt x) (h0 : 0 ≤ s) (h1 : s ≤ 4294967295) :
    Calls Try.prog 24 #[.pointer (some ⟨b, 0, none⟩), .int .i64 n] w fun e w' => e = .returned (.tuple #[.int .u32 (askR s wt).1, .int .i64 (askR s wt).2]) ∧
      RAskI w' b (askS s x wt n).1 (askS s x wt n).2.2 (askS s x wt n).2.1 ∧ Only (· = b) w w' := by
  cases wt with
  | true => exact (rask_wait b s x n w h).mono fun e w' ⟨he, hw⟩ => by subst hw; exact ⟨he, h, Only.refl _ _⟩
  | false =>
    by_cases hs : s = 4294967295
    · subst hs; exact (rask_full b x n w h).mono fun e w' ⟨he, hw⟩ => by subst hw; exact ⟨he, h, Only.refl _ _⟩
    · refine (rask_ok b s x n w h h0 (by omega)).mono fun e w' ⟨he, hw⟩ => ?_
      subst hw
      refine ⟨by rw [he]; simp [askR, hs], ?_, (((Only.refl _ _).set1 _ _).set1 _ _).set1 _ _⟩
      have := ((Blk.set h 0 (.int .u32 (s + 1))).set 1 (.bool true)).set 2 (.int .i64 n)
      simpa [askS, hs, RAskI] using this
theorem rtake_no (b : Nat) (s x q : Int) (wt : Bool) (w : World) (h : RAskI w b s wt x) (hq : takeR s wt q = false) :
    Calls Try.prog 25 #[.pointer (some ⟨b, 0, none⟩), .int .u32 q] w fun e w' => e = .returned (.int .i64 9) ∧ w = w' := by
  obtain ⟨⟨c0, c1, c2⟩, f0, f1, f2⟩ := h.facts
  cases wt with
  | false =>
    go_enter Try.func25, Try.ntmps25
    go_wp2
    go_ret
    exact ⟨rfl, rfl⟩
  | true =>
    have hne : (q != s) = true := by simpa [takeR] using hq
    go_enter Try.func25, Try.ntmps25
    go_wp2
    go_ret
    exact ⟨rfl, rfl⟩
theorem rtake_c (b : Nat) (s x q : Int) (wt : Bool) (w : World) (h : RAskI w b s wt x) :
    Calls Try.prog 25 #[.pointer (some ⟨b, 0, none⟩), .int .u32 q] w fun e w' => e = .returned (.int .i64 (takeE (takeR s wt q))) ∧
      RAskI w' b s (wt && !takeR s wt q) (if takeR s wt q = true then 0 else x) ∧ Only (· = b) w w' := by
  by_cases hq : takeR s wt q = true
  · have hw : wt = true := by simp [takeR] at hq; exact hq.1
    have hs : q = s := by simp [takeR] at hq; exact hq.2
    subst hw; subst hs
    refine (rtake_yes b q x w h).mono fun e w' ⟨he, hw⟩ => ?_
    subst hw
    refine ⟨by rw [he]; simp [takeE, hq], ?_, ((Only.refl _ _).set1 _ _).set1 _ _⟩
    have := (Blk.set h 1 (.bool false)).set 2 (.int .i64 0)
    simpa [hq, RAskI] using this
  · have hq' : takeR s wt q = false := by simpa using hq
    exact (rtake_no b s x q wt w h hq').mono fun e w' ⟨he, hw⟩ => by subst hw; exact ⟨by rw [he]; simp [takeE, hq'], by simpa [hq'] using h, Only.refl _ _⟩
theorem rhear_c (b : Nat) (s x q : Int) (w : World) (h : RAnsI w b s x) (h0 : 0 ≤ s) (hs : s ≤ 4294967295) (hq : 0 ≤ q) (hq' : q ≤ 4294967295) :
    Calls Try.prog 26 #[.pointer (some ⟨b, 0, none⟩), .int .u32 q] w fun e w' => e = .returned (.tuple #[.int .i64 (hearR s x q).1, .int .i64 (hearR s x q).2]) ∧ ∃ n, w.drewN n = w' := by
  obtain ⟨⟨c0, c1⟩, f0, f1⟩ := h.facts
  by_cases hn : q = s + 1
  · have hr : hearR s x q = (0, 1) := by simp [hearR, nextB, hn]; omega
    have hb : (q == s + 1) = true := by simpa using hn
    rw [hr]; clear hr hn
    go_enter Try.func26, Try.ntmps26
    go_wp2
    go_ret2
    exact ⟨rfl, 0, rfl⟩
  · have hb : (q == s + 1) = false := by simpa using hn
    by_cases hs' : q = s
    · subst hs'
      by_cases hz : q = 0
      · have hr : hearR q x q = (0, 0) := by simp [hearR, nextB, hz]
        subst hz
        rw [hr]; clear hr hn
        go_enter Try.func26, Try.ntmps26
        go_wp2
        go_ret2
        exact ⟨rfl, 0, rfl⟩
      · have hz0 : 0 < q := by omega
        have hr : hearR q x q = (x, 2) := by simp [hearR, nextB, hz0]; omega
        have hz' : (q != 0) = true := by simpa using hz
        rw [hr]; clear hr hn hz hz0
        go_enter Try.func26, Try.ntmps26
        go_wp2
        go_ret2
        exact ⟨rfl, 0, rfl⟩
    · have hr : hearR s x q = (0, 0) := by simp [hearR, nextB, hs', hn]
      have hz' : (q == s) = false := by simpa using hs'
      rw [hr]; clear hr hn hs'
      go_enter Try.func26, Try.ntmps26
      go_wp2
      go_ret2
      exact ⟨rfl, 0, rfl⟩
theorem ranswer_yes (b : Nat) (s x q n : Int) (w : World) (h : RAnsI w b s x) (h0 : 0 ≤ s) (hs : s ≤ 4294967295) (hq : q ≤ 4294967295) (hn : q = s + 1) :
    Calls Try.prog 27 #[.pointer (some ⟨b, 0, none⟩), .int .u32 q, .int .i64 n] w fun e w' => e = .returned (.int .i64 0) ∧ (w.setCell ⟨b, 0, none⟩ (.int .u32 q)).setCell ⟨b, 1, none⟩ (.int .i64 n) = w' := by
  obtain ⟨⟨c0, c1⟩, f0, f1⟩ := h.facts
  have hb : (q != s + 1) = false := by simpa using hn
  have hq0 : 0 ≤ q := by omega
  clear hn
  go_enter Try.func27, Try.ntmps27
  go_wp2
  go_ret
  exact ⟨rfl, rfl⟩
theorem ranswer_no (b : Nat) (s x q n : Int) (w : World) (h : RAnsI w b s x) (h0 : 0 ≤ s) (hs : s ≤ 4294967295) (hq0 : 0 ≤ q) (hq : q ≤ 4294967295) (hn : ¬ q = s + 1) :
    Calls Try.prog 27 #[.pointer (some ⟨b, 0, none⟩), .int .u32 q, .int .i64 n] w fun e w' => e = .returned (.int .i64 9) ∧ w = w' := by
  obtain ⟨⟨c0, c1⟩, f0, f1⟩ := h.facts
  have hb : (q != s + 1) = true := by simpa using hn
  clear hn
  go_enter Try.func27, Try.ntmps27
  go_wp2
  go_ret
  exact ⟨rfl, rfl⟩
theorem ranswer_c (b : Nat) (s x q n : Int) (w : World) (h : RAnsI w b s x) (h0 : 0 ≤ s) (hs : s ≤ 4294967295) (hq0 : 0 ≤ q) (hq : q ≤ 4294967295) :
    Calls Try.prog 27 #[.pointer (some ⟨b, 0, none⟩), .int .u32 q, .int .i64 n] w fun e w' => e = .returned (.int .i64 (takeE (nextB s q))) ∧
      RAnsI w' b (if nextB s q = true then s + 1 else s) (if nextB s q = true then n else x) ∧ Only (· = b) w w' := by
  by_cases hn : q = s + 1
  · have hb : nextB s q = true := by simp [nextB, hn]; omega
    refine (ranswer_yes b s x q n w h h0 hs hq hn).mono fun e w' ⟨he, hw⟩ => ?_
    subst hw
    refine ⟨by rw [he]; simp [takeE, hb], ?_, ((Only.refl _ _).set1 _ _).set1 _ _⟩
    have := (Blk.set h 0 (.int .u32 q)).set 1 (.int .i64 n)
    simpa [hb, RAnsI, ← hn] using this
  · have hb : nextB s q = false := by simp [nextB, hn]
    exact (ranswer_no b s x q n w h h0 hs hq0 hq hn).mono fun e w' ⟨he, hw⟩ => by subst hw; exact ⟨by rw [he]; simp [takeE, hb], by simpa [hb] using h, Only.refl _ _⟩
end Go.Proofs.Ytpegbplppfbomaa
