/- Whatever is asked, taken, heard and answered, the results are those of the reference: CallDoes. -/
import Derived.Test.YtpegbplppfbomaaRef29
import Derived.Test.YtpegbplppfbomaaAlive29
import Derived.Test.YtpegbplppfbomaaLaw
namespace Go.Proofs.Ytpegbplppfbomaa
open Go.RowKit

/-- The four objects: an asker and an answerer, and those of the reference. -/
structure Four (wr : World) (h : Nat) (s x : Int) (wt : Bool) (x' m y : Int) : Prop where
  a : AskI wr h s x wt
  b : AnsI wr (h + 1) m y
  c : RAskI wr (h + 1 + 1) s wt x'
  d : RAnsI wr (h + 1 + 1 + 1) m y
  wx : wt = true → x' = x
  s0 : 0 ≤ s
  s1 : s ≤ 4294967295
  m0 : 0 ≤ m
  m1 : m ≤ 4294967295

theorem AskI.lt {w : World} {b : Nat} {s x : Int} {wt : Bool} (h : AskI w b s x wt) : b < w.heap.size := Blk.lt h
theorem AnsI.lt {w : World} {b : Nat} {s x : Int} (h : AnsI w b s x) : b < w.heap.size := Blk.lt h
theorem RAskI.lt {w : World} {b : Nat} {s x : Int} {wt : Bool} (h : RAskI w b s wt x) : b < w.heap.size := Blk.lt h
theorem RAnsI.lt {w : World} {b : Nat} {s x : Int} (h : RAnsI w b s x) : b < w.heap.size := Blk.lt h
theorem Four.alloc {wr : World} {hh : Nat} {s x : Int} {wt : Bool} {x' m y : Int} (h : Four wr hh s x wt x' m y) (o : Obj) : Four (wr.alloc o) hh s x wt x' m y :=
  ⟨Blk.alloc h.a o, Blk.alloc h.b o, Blk.alloc h.c o, Blk.alloc h.d o, h.wx, h.s0, h.s1, h.m0, h.m1⟩

theorem Four.drewN {wr : World} {hh : Nat} {s x : Int} {wt : Bool} {x' m y : Int} (h : Four wr hh s x wt x' m y) (n : Nat) : Four (wr.drewN n) hh s x wt x' m y :=
  ⟨h.a, h.b, h.c, h.d, h.wx, h.s0, h.s1, h.m0, h.m1⟩
theorem Four.pending {w : World} {hh : Nat} {s x : Int} {wt : Bool} {x' m y : Int} (h : Four w hh s x wt x' m y) :
    Calls Try.prog 15 #[.pointer (some ⟨hh, 0, none⟩)] w fun e w' => e = .returned (.tuple #[.int .u32 (pq wt s), .int .i64 (pq wt x), .bool wt]) ∧ Four w' hh s x wt x' m y ∧ Only No w w' :=
  (pending_c _ s x wt w h.a).mono fun _ _ ⟨he, n, hn⟩ => by subst hn; exact ⟨he, h.drewN n, (Only.refl _ _).drewN n⟩
theorem Four.rpending {w : World} {hh : Nat} {s x : Int} {wt : Bool} {x' m y : Int} (h : Four w hh s x wt x' m y) :
    Calls Try.prog 28 #[.pointer (some ⟨hh + 1 + 1, 0, none⟩)] w fun e w' => e = .returned (.tuple #[.int .u32 (pq wt s), .int .i64 (pq wt x'), .bool wt]) ∧ Four w' hh s x wt x' m y ∧ Only No w w' :=
  (rpending_c _ s x' wt w h.c).mono fun _ _ ⟨he, n, hn⟩ => by subst hn; exact ⟨he, h.drewN n, (Only.refl _ _).drewN n⟩
theorem askS_range {s x n : Int} {wt : Bool} (h0 : 0 ≤ s) (h1 : s ≤ 4294967295) : 0 ≤ (askS s x wt n).1 ∧ (askS s x wt n).1 ≤ 4294967295 := by
  unfold askS; split
  · exact ⟨h0, h1⟩
  · split
    · exact ⟨h0, h1⟩
    · constructor <;> simp <;> omega
theorem askS_wx {s x x' n : Int} {wt : Bool} (h : wt = true → x' = x) : (askS s x wt n).2.2 = true → (askS s x' wt n).2.1 = (askS s x wt n).2.1 := by
  unfold askS; split
  · exact h
  · split
    · intro e; simp_all
    · simp
theorem Four.asked {W1 w2 w3 : World} {h : Nat} {s x n : Int} {wt : Bool} {x' m y : Int} (hF : Four W1 h s x wt x' m y)
    (hA : AskI w2 h (askS s x wt n).1 (askS s x wt n).2.1 (askS s x wt n).2.2) (hO : Only (· = h) W1 w2)
    (hR : RAskI w3 (h + 1 + 1) (askS s x' wt n).1 (askS s x' wt n).2.2 (askS s x' wt n).2.1) (hO' : Only (· = h + 1 + 1) w2 w3) :
    Four w3 h (askS s x wt n).1 (askS s x wt n).2.1 (askS s x wt n).2.2 (askS s x' wt n).2.1 m y := by
  have e1 : (askS s x' wt n).1 = (askS s x wt n).1 := by unfold askS; split <;> (try split) <;> rfl
  have e2 : (askS s x' wt n).2.2 = (askS s x wt n).2.2 := by unfold askS; split <;> (try split) <;> rfl
  rw [e1, e2] at hR
  have hr := askS_range (x := x) (n := n) (wt := wt) hF.s0 hF.s1
  exact ⟨hO'.blk hA (by show ¬ h = h + 1 + 1; omega), hO'.blk (hO.blk hF.b (by show ¬ h + 1 = h; omega)) (by show ¬ h + 1 = h + 1 + 1; omega), hR,
    hO'.blk (hO.blk hF.d (by show ¬ h + 1 + 1 + 1 = h; omega)) (by show ¬ h + 1 + 1 + 1 = h + 1 + 1; omega), askS_wx hF.wx, hr.1, hr.2, hF.m0, hF.m1⟩
theorem Four.took {W1 w2 w3 : World} {h : Nat} {s x q : Int} {wt : Bool} {x' m y : Int} (hF : Four W1 h s x wt x' m y)
    (hA : AskI w2 h s x (wt && !takeR s wt q)) (hO : Only (· = h) W1 w2)
    (hR : RAskI w3 (h + 1 + 1) s (wt && !takeR s wt q) (if takeR s wt q = true then 0 else x')) (hO' : Only (· = h + 1 + 1) w2 w3) :
    Four w3 h s x (wt && !takeR s wt q) (if takeR s wt q = true then 0 else x') m y := by
  refine ⟨hO'.blk hA (by show ¬ h = h + 1 + 1; omega), hO'.blk (hO.blk hF.b (by show ¬ h + 1 = h; omega)) (by show ¬ h + 1 = h + 1 + 1; omega), hR,
    hO'.blk (hO.blk hF.d (by show ¬ h + 1 + 1 + 1 = h; omega)) (by show ¬ h + 1 + 1 + 1 = h + 1 + 1; omega), ?_, hF.s0, hF.s1, hF.m0, hF.m1⟩
  intro e
  simp at e
  rw [e.2, if_neg (by simp)]
  exact hF.wx e.1
theorem Four.answered {W1 w2 w3 : World} {h : Nat} {s x q n : Int} {wt : Bool} {x' m y : Int} (hF : Four W1 h s x wt x' m y)
    (hA : AnsI w2 (h + 1) (if nextB m q = true then m + 1 else m) (if nextB m q = true then n else y)) (hO : Only (· = h + 1) W1 w2)
    (hR : RAnsI w3 (h + 1 + 1 + 1) (if nextB m q = true then m + 1 else m) (if nextB m q = true then n else y)) (hO' : Only (· = h + 1 + 1 + 1) w2 w3) :
    Four w3 h s x wt x' (if nextB m q = true then m + 1 else m) (if nextB m q = true then n else y) := by
  have hm : 0 ≤ (if nextB m q = true then m + 1 else m) ∧ (if nextB m q = true then m + 1 else m) ≤ 4294967295 := by
    have h0 := hF.m0
    have h1 := hF.m1
    split
    · rename_i hn
      simp [nextB] at hn
      omega
    · exact ⟨h0, h1⟩
  exact ⟨hO'.blk (hO.blk hF.a (by show ¬ h = h + 1; omega)) (by show ¬ h = h + 1 + 1 + 1; omega), hO'.blk hA (by show ¬ h + 1 = h + 1 + 1 + 1; omega),
    hO'.blk (hO.blk hF.c (by show ¬ h + 1 + 1 = h + 1; omega)) (by show ¬ h + 1 + 1 = h + 1 + 1 + 1; omega), hR, hF.wx, hF.s0, hF.s1, hm.1, hm.2⟩

set_option maxRecDepth 100000 in
set_option maxHeartbeats 1600000 in
theorem callDoes_small (a : Option Addr) (len cap : Nat) (d q n : Nat → Int) (w : World) (hlen : len ≤ 100)
    (hx : 0 < len → ∃ bl off, a = some ⟨bl, off, none⟩ ∧ ∀ k, k < len → w.cell? ⟨bl, off + k * 3, none⟩ = some (.int .i64 (d k)) ∧ w.cell? ⟨bl, off + k * 3 + 1, none⟩ = some (.int .u32 (q k)) ∧
      w.cell? ⟨bl, off + k * 3 + 2, none⟩ = some (.int .i64 (n k)))
    (hq : ∀ k, k < len → 0 ≤ q k ∧ q k ≤ 4294967295) :
    Calls Try.prog 5 #[.slice a len cap] w fun e w' => e = .returned (.bool true) ∧ Only No w w' := by
  have hl : ¬ (100 : Int) < (len : Int) := by omega
  go_enter Try.func5, Try.ntmps5
  go_wp2_with (first
    | (go_at_call 12; refine (newAsker_c _).mono ?_; rintro e w' ⟨rfl, rfl⟩)
    | (go_at_call 13; refine (newAnswerer_c _).mono ?_; rintro e w' ⟨rfl, rfl⟩))
  go_loopg [7] (len : Nat) (fun g i wr => ∃ (k : Nat) (s x : Int) (wt : Bool) (x' m y : Int), k + g = len ∧ i = .int .i64 k ∧ Four wr w.heap.size s x wt x' m y ∧ Only No w wr)
  case atStart =>
    refine ⟨0, 0, 0, false, 0, 0, 0, by omega, rfl, ⟨?_, ?_, ?_, ?_, by simp, by omega, by omega, by omega, by omega⟩, ((((Only.refl _ _).alloc _).alloc _).alloc _).alloc _⟩
    · exact (((Blk.new w _ _).alloc _).alloc _).alloc _
    · have := ((Blk.new (w.alloc (.cells #[.int .u32 0, .int .i64 0, .bool false] 102)) #[.int .u32 0, .int .i64 0] 104).alloc (.cells #[.int .u32 0, .bool false, .int .i64 0] 51)).alloc (.cells #[.int .u32 0, .int .i64 0] 54)
      simpa [AnsI] using this
    · have := (Blk.new ((w.alloc (.cells #[.int .u32 0, .int .i64 0, .bool false] 102)).alloc (.cells #[.int .u32 0, .int .i64 0] 104)) #[.int .u32 0, .bool false, .int .i64 0] 51).alloc (.cells #[.int .u32 0, .int .i64 0] 54)
      simpa [RAskI] using this
    · have := Blk.new (((w.alloc (.cells #[.int .u32 0, .int .i64 0, .bool false] 102)).alloc (.cells #[.int .u32 0, .int .i64 0] 104)).alloc (.cells #[.int .u32 0, .bool false, .int .i64 0] 51)) #[.int .u32 0, .int .i64 0] 54
      simpa [RAnsI] using this
  case round =>
    obtain ⟨k, s, x, wt, x', m, y, hk, rfl, hF, hO⟩ := hrel
    by_cases hlt : k < len
    · obtain ⟨bl, off, rfl, hc⟩ := hx (by omega)
      obtain ⟨p0, p1, p2⟩ := hc k hlt
      have c0 : wr.cell? ⟨bl, off + k * 3, none⟩ = some (.int .i64 (d k)) := (hO.cell (World.block_lt_of_cell? w _ p0) id).trans p0
      have c1 : wr.cell? ⟨bl, off + k * 3 + 1, none⟩ = some (.int .u32 (q k)) := (hO.cell (World.block_lt_of_cell? w _ p1) id).trans p1
      have c2 : wr.cell? ⟨bl, off + k * 3 + 2, none⟩ = some (.int .i64 (n k)) := (hO.cell (World.block_lt_of_cell? w _ p2) id).trans p2
      clear hx hc p0 p1 p2
      go_upto_block 2 with (fail)
      go_cut [9] (fun o wc => o = .bool true ∧ ∃ (s x : Int) (wt : Bool) (x' m y : Int), Four wc w.heap.size s x wt x' m y ∧ Only No w wc)
      case first =>
        have hS : Blk (wr.alloc (.cells #[.int .i64 (d k), .int .u32 (q k), .int .i64 (n k)] 56)) wr.heap.size #[.int .i64 (d k), .int .u32 (q k), .int .i64 (n k)] 56 := Blk.new _ _ _
        have hF1 := hF.alloc (.cells #[.int .i64 (d k), .int .u32 (q k), .int .i64 (n k)] 56)
        have hO1 := hO.alloc (.cells #[.int .i64 (d k), .int .u32 (q k), .int .i64 (n k)] 56)
        have hqk := hq k hlt
        have la := hF.a.lt
        have lb := hF.b.lt
        have lc := hF.c.lt
        have ld := hF.d.lt
        have hba : ∀ z, z < wr.heap.size → wr.heap.size ≠ z := fun z hz => by omega
        have ea := hba _ la
        have eb := hba _ lb
        have ec := hba _ lc
        have ed := hba _ ld
        clear hq hF hO c0 c1 c2 hba la lb lc ld
        generalize hWW : wr.alloc (.cells #[.int .i64 (d k), .int .u32 (q k), .int .i64 (n k)] 56) = W1 at *
        clear hWW
        generalize wr.heap.size = sb at *
        generalize d k = dk at *
        generalize q k = qk at *
        generalize n k = nk at *
        have nac : ¬ (w.heap.size + 1 + 1 = w.heap.size) := by omega
        have nbd : ¬ (w.heap.size + 1 + 1 + 1 = w.heap.size + 1) := by omega
        have z0 := hS.cell 0 _ rfl
        have z1 := hS.cell 1 _ rfl
        have z2 := hS.cell 2 _ rfl
        by_cases e0 : dk = 0
        · subst e0
          go_wp2_with (first
            | (go_at_call 14; refine (ask_c _ s x _ wt _ hF1.a hF1.s0 hF1.s1).mono ?_; rintro e w2 ⟨rfl, hA2, hO2⟩; have y2 := (hO2.blk hS ea).cell 2 _ rfl)
            | (go_at_call 24; refine (rask_c _ s x' _ wt _ (hO2.blk hF1.c nac) hF1.s0 hF1.s1).mono ?_; rintro e w3 ⟨rfl, hA3, hO3⟩))
          go_meet
          refine ⟨?_, _, _, _, _, _, _, hF1.asked hA2 hO2 hA3 hO3, (hO1.then hO2 (fun i hi e => absurd e (by omega))).then hO3 (fun i hi e => absurd e (by omega))⟩
          simp
        · have b0 : (dk == 0) = false := by simpa using e0
          clear e0
          by_cases e1 : dk = 1
          · subst e1
            go_upto_region 17 with fail
            go_region_held3 (fun w' => w'.cell? ⟨sb, 1, none⟩ = some (.int .u32 qk)) (go_keep)
              (first
                | (go_at_call 18; refine (take_c _ s x _ wt _ (by exact hF1.a)).mono ?_; rintro e w2 ⟨rfl, hA2, hO2⟩; have y1 := (hO2.blk hS ea).cell 1 _ rfl)
                | (go_at_call 25; refine (rtake_c _ s x' _ wt _ (by exact hO2.blk hF1.c nac)).mono ?_; rintro e w3 ⟨rfl, hA3, hO3⟩; have y2 := (hO3.blk (hO2.blk hS ea) ec).cell 1 _ rfl))
            all_goals
              go_wp2_with fail
              go_meet
              refine ⟨?_, _, _, _, _, _, _, hF1.took hA2 hO2.of_drew hA3 hO3, (hO1.then hO2.of_drew (fun i hi e => absurd e (by omega))).then hO3 (fun i hi e => absurd e (by omega))⟩
              simp
          · have b1 : (dk == 1) = false := by simpa using e1
            clear e1
            by_cases e2 : dk = 2
            · subst e2
              go_wp2_with (first
                | (go_at_call 16; refine (hear_c _ m y _ _ hF1.b hF1.m0).mono ?_; rintro e w2 ⟨rfl, rfl⟩)
                | (go_at_call 26; refine (rhear_c _ m y _ _ hF1.d hF1.m0 hF1.m1 hqk.1 hqk.2).mono ?_; rintro e w3 ⟨rfl, ⟨nd, rfl⟩⟩))
              go_meet
              refine ⟨?_, _, _, _, _, _, _, hF1.drewN nd, hO1.drewN nd⟩
              simp
            · have b2 : (dk == 2) = false := by simpa using e2
              clear e2
              go_upto_region 11 with fail
              go_region_held3 (fun w' => w'.cell? ⟨sb, 1, none⟩ = some (.int .u32 qk) ∧ w'.cell? ⟨sb, 2, none⟩ = some (.int .i64 nk)) (go_keep)
                (first
                  | (go_at_call 17; refine (answer_c _ m y _ _ _ (by exact hF1.b) hF1.m0).mono ?_; rintro e w2 ⟨rfl, hA2, hO2⟩; have y1 := (hO2.blk hS eb).cell 1 _ rfl; have y2 := (hO2.blk hS eb).cell 2 _ rfl)
                  | (go_at_call 27; refine (ranswer_c _ m y _ _ _ (by exact hO2.blk hF1.d nbd) hF1.m0 hF1.m1 hqk.1 hqk.2).mono ?_; rintro e w3 ⟨rfl, hA3, hO3⟩; have y3 := (hO3.blk (hO2.blk hS eb) ed).cell 1 _ rfl; have y4 := (hO3.blk (hO2.blk hS eb) ed).cell 2 _ rfl))
              all_goals
                go_wp2_with fail
                go_meet
                refine ⟨?_, _, _, _, _, _, _, hF1.answered hA2 hO2.of_drew hA3 hO3, (hO1.then hO2.of_drew (fun i hi e => absurd e (by omega))).then hO3 (fun i hi e => absurd e (by omega))⟩
                simp
      case rest =>
        obtain ⟨rfl, s2, x2, wt2, x2', m2, y2, hF2, hO2⟩ := hcut
        have hx : (pq wt2 x2 == pq wt2 x2') = true := by
          cases wt2
          · rfl
          · simp [pq, hF2.wx rfl]
        have hx' : (pq wt2 x2 != pq wt2 x2') = false := by simpa using hx
        go_wp2_with (first
          | (go_at_call 15; refine hF2.pending.mono ?_; rintro e wp ⟨rfl, hF3, hO3⟩)
          | (go_at_call 28; refine hF3.rpending.mono ?_; rintro e wq ⟨rfl, hF4, hO4⟩; have hd0 := hF4.d.facts.1.1; have hc0 := hF4.c.facts.1.1))
        go_quiet (first
          | (go_at_call 29; exact quiet_of_eq (acount_c _ s2 x2 wt2 _ (by exact hF4.a)))
          | (go_at_call 30; exact quiet_of_eq (bcount_c _ m2 y2 _ (by exact hF4.b))))
        go_wp2
        go_roundg (gk - 1)
        case measure => omega
        case rel => exact ⟨k + 1, s2, x2, wt2, x2', m2, y2, by omega, by go_num, hF4.drewN _, ((hO2.trans hO3).trans hO4).drewN _⟩
    · clear hx hq
      go_wp2_with (go_at_call 11; refine (alive29_c _).mono ?_; rintro e w' ⟨rfl, hO2⟩)
      go_ret
      exact ⟨rfl, hO.trans hO2⟩

set_option maxRecDepth 100000 in
theorem callDoes_great (a : Option Addr) (len cap : Nat) (w : World) (hlen : 100 < len) :
    Calls Try.prog 5 #[.slice a len cap] w fun e w' => e = .returned (.bool true) ∧ Only No w w' := by
  have hl : (100 : Int) < (len : Int) := by omega
  go_enter Try.func5, Try.ntmps5
  go_wp2_with (go_at_call 11; refine (alive29_c _).mono ?_; rintro e w' ⟨rfl, hO2⟩)
  go_ret
  exact ⟨rfl, hO2⟩
end Go.Proofs.Ytpegbplppfbomaa
