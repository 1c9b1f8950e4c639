/- cell.Places and the document's. cell.put and the document's Put: a number put into a table of the call's own. Two cells are alike, by the model's own word; Same over cells. cell.each, cell.put: a number put into a table of the call's own. No statement is proved here. -/
import Derived.Test.YtdcinifcpaldiaaDoorCell
import Derived.Test.YtdcinifcpaldiaaDoorApp
import Derived.StillTailTactics
import Derived.Laws.StructEq

namespace Go.Proofs.YtdcinifcpaldiaaDoor
open Go.RowKit

def placesV (k x : Nat) : Value := .agg #[.int .i64 (place k x 0 : Nat), .int .i64 (place k x 1 : Nat), .int .i64 (place k x 2 : Nat)]
def noPlaces : Value := .agg #[.int .i64 0, .int .i64 0, .int .i64 0]
theorem placesV_eq {k x p0 p1 p2 : Nat} (h0 : p0 = place k x 0) (h1 : p1 = place k x 1) (h2 : p2 = place k x 2) : placesV k x = .agg #[.int .i64 (p0 : Int), .int .i64 (p1 : Int), .int .i64 (p2 : Int)] := by subst h0 h1 h2; rfl
theorem places_no (m : Int) (x : Nat) (w : World) (h : ¬ May m) : Calls Tryd.prog 126 #[.int .i64 m, .int .u64 (x : Int)] w fun e w' => e = .returned noPlaces ∧ Only No w w' := by
  have H := Lib.hid (may_no m)
  have HN := Lib.hid h
  clear h
  go_enter Tryd.func126, Tryd.ntmps126
  go_wp2_with (go_at_call 72; refine (H.out _ HN.out).mono ?_; rintro e w' ⟨rfl, rfl⟩)
  refine bodyPost_ret (v := noPlaces) (by simp [results, Tryd.results126, go_sem, noPlaces]) rfl ⟨rfl, ?_⟩
  repeat (first | exact Only.refl _ _ | refine Only.setCell ?_ _ _ (fun hk => absurd hk (by simp)) | refine Only.alloc ?_ _)
theorem rplaces_no (m : Int) (x : Nat) (w : World) (h : ¬ May m) : Calls Tryd.prog 87 #[.int .i64 m, .int .u64 (x : Int)] w fun e w' => e = .returned noPlaces ∧ Only No w w' := by
  have H := Lib.hid (rmay_no m)
  have HN := Lib.hid h
  clear h
  go_enter Tryd.func87, Tryd.ntmps87
  go_wp2_with (go_at_call 53; refine (H.out _ HN.out).mono ?_; rintro e w' ⟨rfl, rfl⟩)
  refine bodyPost_ret (v := noPlaces) (by simp [results, Tryd.results87, go_sem, noPlaces]) rfl ⟨rfl, ?_⟩
  repeat (first | exact Only.refl _ _ | refine Only.setCell ?_ _ _ (fun hk => absurd hk (by simp)) | refine Only.alloc ?_ _)
set_option maxRecDepth 100000 in
set_option maxHeartbeats 4000000 in
theorem places_c (k x : Nat) (w : World) (hk : 1 ≤ k) (hk2 : k ≤ 1365) (hx : W64 x) : Calls Tryd.prog 126 #[.int .i64 ((3 * k : Nat) : Int), .int .u64 (x : Int)] w fun e w' => e = .returned (placesV k x) ∧ Only No w w' := by
  have H := Lib.hid (fun w => may_yes ((3 * k : Nat) : Int) w (may_of hk hk2))
  have hd : (((3 * k : Nat) : Int) / 3) = (k : Int) := by omega
  have hmb : ((3 * k : Nat) : Int) ≤ 4095 := by omega
  have hm0 : 0 ≤ ((3 * k : Nat) : Int) := by omega
  obtain ⟨p0, e0⟩ : ∃ p, p = place k x 0 := ⟨_, rfl⟩
  obtain ⟨p1, e1⟩ : ∃ p, p = place k x 1 := ⟨_, rfl⟩
  obtain ⟨p2, e2⟩ : ∃ p, p = place k x 2 := ⟨_, rfl⟩
  have l0 := place_lt hk x 0
  have l1 := place_lt hk x 1
  have l2 := place_lt hk x 2
  rw [← e0] at l0
  rw [← e1] at l1
  rw [← e2] at l2
  rw [placesV_eq e0 e1 e2]
  have W1 := fun w => Word_c 1 x w (by simp [W64]) hx
  have W2 := fun w => Word_c 2 x w (by simp [W64]) hx
  have W3 := fun w => Word_c 3 x w (by simp [W64]) hx
  have B1 := fun w => Below_c (wordN 1 x) k w (w64_word _ _) hk (by omega)
  have B2 := fun w => Below_c (wordN 2 x) k w (w64_word _ _) hk (by omega)
  have B3 := fun w => Below_c (wordN 3 x) k w (w64_word _ _) hk (by omega)
  have q0 : p0 = wordN 1 x % k := by rw [e0]; show k * 0 + wordN 1 x % k = _; omega
  have q1 : p1 = k * 1 + wordN 2 x % k := e1
  have q2 : p2 = k * 2 + wordN 3 x % k := e2
  have z1 := Nat.mod_lt (wordN 1 x) (show k > 0 by omega)
  have z2 := Nat.mod_lt (wordN 2 x) (show k > 0 by omega)
  have z3 := Nat.mod_lt (wordN 3 x) (show k > 0 by omega)
  generalize wordN 1 x % k = r1 at *
  generalize wordN 2 x % k = r2 at *
  generalize wordN 3 x % k = r3 at *
  have s0 : (p0 : Int) = (r1 : Int) := by omega
  have s1 : (p1 : Int) = (k : Int) + (r2 : Int) := by omega
  have s2 : (p2 : Int) = (k : Int) * 2 + (r3 : Int) := by omega
  have HW1 : Hid (∀ w, Calls Tryd.prog 32 #[.int .u64 1, .int .u64 (x : Int)] w fun e w' => e = .returned (.int .u64 (wordN 1 x : Nat)) ∧ Only No w w') := Lib.hid W1
  have HW2 : Hid (∀ w, Calls Tryd.prog 32 #[.int .u64 2, .int .u64 (x : Int)] w fun e w' => e = .returned (.int .u64 (wordN 2 x : Nat)) ∧ Only No w w') := Lib.hid W2
  have HW3 : Hid (∀ w, Calls Tryd.prog 32 #[.int .u64 3, .int .u64 (x : Int)] w fun e w' => e = .returned (.int .u64 (wordN 3 x : Nat)) ∧ Only No w w') := Lib.hid W3
  have HB1 := Lib.hid B1
  have HB2 := Lib.hid B2
  have HB3 := Lib.hid B3
  have HS := Lib.hid (And.intro s0 (And.intro s1 s2))
  clear e0 e1 e2 W1 W2 W3 B1 B2 B3 q0 q1 q2 s0 s1 s2 l0 l1 l2
  generalize wordN 1 x = g1 at *
  generalize wordN 2 x = g2 at *
  generalize wordN 3 x = g3 at *
  generalize ((3 * k : Nat) : Int) = m at *
  go_enter Tryd.func126, Tryd.ntmps126
  go_wp2_with (go_at_call 72; refine (H.out _).mono ?_; rintro e w' ⟨rfl, rfl⟩)
  (try simp only [hd])
  go_loopw [6, 13] (fun _ v13 wr => Only No w wr ∧ ((v13 = .int .i64 0 ∧ Blk wr w.heap.size #[.int .i64 0, .int .i64 0, .int .i64 0] 114) ∨ (v13 = .int .i64 1 ∧ Blk wr w.heap.size #[.int .i64 (p0 : Int), .int .i64 0, .int .i64 0] 114) ∨
      (v13 = .int .i64 2 ∧ Blk wr w.heap.size #[.int .i64 (p0 : Int), .int .i64 (p1 : Int), .int .i64 0] 114) ∨ (v13 = .int .i64 3 ∧ Blk wr w.heap.size #[.int .i64 (p0 : Int), .int .i64 (p1 : Int), .int .i64 (p2 : Int)] 114))) (fun _ v13 _ => 3 - (intOf v13).toNat)
  case atStart => exact ⟨(Only.refl _ _).alloc _, .inl ⟨rfl, Blk.new _ _ _⟩⟩
  case round =>
    obtain ⟨hO, hc⟩ := hrel
    rcases hc with ⟨rfl, hb⟩ | ⟨rfl, hb⟩ | ⟨rfl, hb⟩ | ⟨rfl, hb⟩
    · go_wp2_with (first | (go_at_call 32; ((with_reducible refine (HW1.out _).mono ?_); rintro e w1 ⟨rfl, hO1⟩; have hb1 := hO1.blk hb id; have hf1 := hb1.free 0; have hc0 := hb1.cell 0 _ rfl; have hc1 := hb1.cell 1 _ rfl; have hc2 := hb1.cell 2 _ rfl)) | (go_at_call 143; ((with_reducible refine (HB1.out _).mono ?_); rintro e w2 ⟨rfl, rfl⟩)))
      go_roundw
      case rel =>
        refine ⟨(hO.trans hO1).setCell _ _ (fun hk => absurd hk (by simp)), .inr (.inl ⟨rfl, ?_⟩)⟩
        have := (hb1).set 0 (.int .i64 (p0 : Int))
        rw [HS.out.1] at this ⊢
        simpa using this
      case measure => simp [intOf]
    · go_wp2_with (first | (go_at_call 32; ((with_reducible refine (HW2.out _).mono ?_); rintro e w1 ⟨rfl, hO1⟩; have hb1 := hO1.blk hb id; have hf1 := hb1.free 1; have hc0 := hb1.cell 0 _ rfl; have hc1 := hb1.cell 1 _ rfl; have hc2 := hb1.cell 2 _ rfl)) | (go_at_call 143; ((with_reducible refine (HB2.out _).mono ?_); rintro e w2 ⟨rfl, rfl⟩)))
      go_roundw
      case rel =>
        refine ⟨(hO.trans hO1).setCell _ _ (fun hk => absurd hk (by simp)), .inr (.inr (.inl ⟨rfl, ?_⟩))⟩
        have := (hb1).set 1 (.int .i64 (p1 : Int))
        rw [HS.out.2.1] at this ⊢
        simpa using this
      case measure => simp [intOf]
    · go_wp2_with (first | (go_at_call 32; ((with_reducible refine (HW3.out _).mono ?_); rintro e w1 ⟨rfl, hO1⟩; have hb1 := hO1.blk hb id; have hf1 := hb1.free 2; have hc0 := hb1.cell 0 _ rfl; have hc1 := hb1.cell 1 _ rfl; have hc2 := hb1.cell 2 _ rfl)) | (go_at_call 143; ((with_reducible refine (HB3.out _).mono ?_); rintro e w2 ⟨rfl, rfl⟩)))
      go_roundw
      case rel =>
        refine ⟨(hO.trans hO1).setCell _ _ (fun hk => absurd hk (by simp)), .inr (.inr (.inr ⟨rfl, ?_⟩))⟩
        have := (hb1).set 2 (.int .i64 (p2 : Int))
        rw [HS.out.2.2] at this ⊢
        simpa using this
      case measure => simp [intOf]
    · have hf0 := hb.free 0
      have hf1 := hb.free 1
      have hf2 := hb.free 2
      have hc0 := hb.cell 0 _ rfl
      have hc1 := hb.cell 1 _ rfl
      have hc2 := hb.cell 2 _ rfl
      have hz := hb.lt
      go_wp2
      refine bodyPost_ret (v := .agg #[.int .i64 (p0 : Int), .int .i64 (p1 : Int), .int .i64 (p2 : Int)]) (by simp [results, Tryd.results126, go_sem, hc0, hc1, hc2, hz]) rfl ⟨rfl, ?_⟩
      repeat (first | exact hO | refine Only.setCell ?_ _ _ (fun hk => absurd hk (by simp)))
set_option maxRecDepth 100000 in
set_option maxHeartbeats 4000000 in
theorem rplaces_c (k x : Nat) (w : World) (hk : 1 ≤ k) (hk2 : k ≤ 1365) (hx : W64 x) : Calls Tryd.prog 87 #[.int .i64 ((3 * k : Nat) : Int), .int .u64 (x : Int)] w fun e w' => e = .returned (placesV k x) ∧ Only No w w' := by
  have H := Lib.hid (fun w => rmay_yes ((3 * k : Nat) : Int) w (may_of hk hk2))
  have hd : (((3 * k : Nat) : Int) / 3) = (k : Int) := by omega
  have hmb : ((3 * k : Nat) : Int) ≤ 4095 := by omega
  have hm0 : 0 ≤ ((3 * k : Nat) : Int) := by omega
  obtain ⟨p0, e0⟩ : ∃ p, p = place k x 0 := ⟨_, rfl⟩
  obtain ⟨p1, e1⟩ : ∃ p, p = place k x 1 := ⟨_, rfl⟩
  obtain ⟨p2, e2⟩ : ∃ p, p = place k x 2 := ⟨_, rfl⟩
  have l0 := place_lt hk x 0
  have l1 := place_lt hk x 1
  have l2 := place_lt hk x 2
  rw [← e0] at l0
  rw [← e1] at l1
  rw [← e2] at l2
  rw [placesV_eq e0 e1 e2]
  have W1 := fun w => rWord_c 1 x w (by simp [W64]) hx
  have W2 := fun w => rWord_c 2 x w (by simp [W64]) hx
  have W3 := fun w => rWord_c 3 x w (by simp [W64]) hx
  have B1 := fun w => rBelow_c (wordN 1 x) k w (w64_word _ _) hk (by omega)
  have B2 := fun w => rBelow_c (wordN 2 x) k w (w64_word _ _) hk (by omega)
  have B3 := fun w => rBelow_c (wordN 3 x) k w (w64_word _ _) hk (by omega)
  have q0 : p0 = wordN 1 x % k := by rw [e0]; show k * 0 + wordN 1 x % k = _; omega
  have q1 : p1 = k * 1 + wordN 2 x % k := e1
  have q2 : p2 = k * 2 + wordN 3 x % k := e2
  have z1 := Nat.mod_lt (wordN 1 x) (show k > 0 by omega)
  have z2 := Nat.mod_lt (wordN 2 x) (show k > 0 by omega)
  have z3 := Nat.mod_lt (wordN 3 x) (show k > 0 by omega)
  generalize wordN 1 x % k = r1 at *
  generalize wordN 2 x % k = r2 at *
  generalize wordN 3 x % k = r3 at *
  have s0 : (p0 : Int) = (r1 : Int) := by omega
  have s1 : (p1 : Int) = (k : Int) + (r2 : Int) := by omega
  have s2 : (p2 : Int) = (k : Int) * 2 + (r3 : Int) := by omega
  have HW1 : Hid (∀ w, Calls Tryd.prog 34 #[.int .u64 1, .int .u64 (x : Int)] w fun e w' => e = .returned (.int .u64 (wordN 1 x : Nat)) ∧ w = w') := Lib.hid W1
  have HW2 : Hid (∀ w, Calls Tryd.prog 34 #[.int .u64 2, .int .u64 (x : Int)] w fun e w' => e = .returned (.int .u64 (wordN 2 x : Nat)) ∧ w = w') := Lib.hid W2
  have HW3 : Hid (∀ w, Calls Tryd.prog 34 #[.int .u64 3, .int .u64 (x : Int)] w fun e w' => e = .returned (.int .u64 (wordN 3 x : Nat)) ∧ w = w') := Lib.hid W3
  have HB1 := Lib.hid B1
  have HB2 := Lib.hid B2
  have HB3 := Lib.hid B3
  have HS := Lib.hid (And.intro s0 (And.intro s1 s2))
  clear e0 e1 e2 W1 W2 W3 B1 B2 B3 q0 q1 q2 s0 s1 s2 l0 l1 l2
  generalize wordN 1 x = g1 at *
  generalize wordN 2 x = g2 at *
  generalize wordN 3 x = g3 at *
  generalize ((3 * k : Nat) : Int) = m at *
  go_enter Tryd.func87, Tryd.ntmps87
  go_wp2_with (go_at_call 53; refine (H.out _).mono ?_; rintro e w' ⟨rfl, rfl⟩)
  (try simp only [hd])
  go_loopw [6] (fun v6 wr => Only No w wr ∧ Blk wr w.heap.size #[.int .i64 0, .int .i64 0, .int .i64 0] 114 ∧ ((v6 = .int .i64 0 ∧ Blk wr (w.heap.size + 1) #[.int .i64 0, .int .i64 0, .int .i64 0] 114) ∨ (v6 = .int .i64 1 ∧ Blk wr (w.heap.size + 1) #[.int .i64 (p0 : Int), .int .i64 0, .int .i64 0] 114) ∨
      (v6 = .int .i64 2 ∧ Blk wr (w.heap.size + 1) #[.int .i64 (p0 : Int), .int .i64 (p1 : Int), .int .i64 0] 114) ∨ (v6 = .int .i64 3 ∧ Blk wr (w.heap.size + 1) #[.int .i64 (p0 : Int), .int .i64 (p1 : Int), .int .i64 (p2 : Int)] 114))) (fun v6 _ => 3 - (intOf v6).toNat)
  case atStart =>
    refine ⟨((Only.refl _ _).alloc _).alloc _, (Blk.new _ _ _).alloc _, .inl ⟨rfl, ?_⟩⟩
    have := Blk.new (w.alloc (.cells #[.int .i64 0, .int .i64 0, .int .i64 0] 114)) #[.int .i64 0, .int .i64 0, .int .i64 0] 114
    simpa using this
  case round =>
    obtain ⟨hO, hbr, hc⟩ := hrel
    have r0 := hbr.cell 0 _ rfl
    have r1' := hbr.cell 1 _ rfl
    have r2' := hbr.cell 2 _ rfl
    have g0 := hbr.free 0
    have g1' := hbr.free 1
    have g2' := hbr.free 2
    have hzr := hbr.lt
    rcases hc with ⟨rfl, hb⟩ | ⟨rfl, hb⟩ | ⟨rfl, hb⟩ | ⟨rfl, hb⟩
    · have hfa := hb.free 0
      have hfb := hb.free 1
      have hfc := hb.free 2
      have hc0 := hb.cell 0 _ rfl
      have hc1 := hb.cell 1 _ rfl
      have hc2 := hb.cell 2 _ rfl
      have hz := hb.lt
      go_wp2_with (first | (go_at_call 34; ((with_reducible refine (HW1.out _).mono ?_); rintro e w1 ⟨rfl, rfl⟩)) | (go_at_call 125; ((with_reducible refine (HB1.out _).mono ?_); rintro e w2 ⟨rfl, rfl⟩)))
      go_roundw
      case rel =>
        refine ⟨hO.setCell _ _ (fun hk => absurd hk (by simp)), hbr.other (by simp) _, .inr (.inl ⟨rfl, ?_⟩)⟩
        have := (hb).set 0 (.int .i64 (p0 : Int))
        rw [HS.out.1] at this ⊢
        simpa using this
      case measure => simp [intOf]
    · have hfa := hb.free 0
      have hfb := hb.free 1
      have hfc := hb.free 2
      have hc0 := hb.cell 0 _ rfl
      have hc1 := hb.cell 1 _ rfl
      have hc2 := hb.cell 2 _ rfl
      have hz := hb.lt
      go_wp2_with (first | (go_at_call 34; ((with_reducible refine (HW2.out _).mono ?_); rintro e w1 ⟨rfl, rfl⟩)) | (go_at_call 125; ((with_reducible refine (HB2.out _).mono ?_); rintro e w2 ⟨rfl, rfl⟩)))
      go_roundw
      case rel =>
        refine ⟨hO.setCell _ _ (fun hk => absurd hk (by simp)), hbr.other (by simp) _, .inr (.inr (.inl ⟨rfl, ?_⟩))⟩
        have := (hb).set 1 (.int .i64 (p1 : Int))
        rw [HS.out.2.1] at this ⊢
        simpa using this
      case measure => simp [intOf]
    · have hfa := hb.free 0
      have hfb := hb.free 1
      have hfc := hb.free 2
      have hc0 := hb.cell 0 _ rfl
      have hc1 := hb.cell 1 _ rfl
      have hc2 := hb.cell 2 _ rfl
      have hz := hb.lt
      go_wp2_with (first | (go_at_call 34; ((with_reducible refine (HW3.out _).mono ?_); rintro e w1 ⟨rfl, rfl⟩)) | (go_at_call 125; ((with_reducible refine (HB3.out _).mono ?_); rintro e w2 ⟨rfl, rfl⟩)))
      go_roundw
      case rel =>
        refine ⟨hO.setCell _ _ (fun hk => absurd hk (by simp)), hbr.other (by simp) _, .inr (.inr (.inr ⟨rfl, ?_⟩))⟩
        have := (hb).set 2 (.int .i64 (p2 : Int))
        rw [HS.out.2.2] at this ⊢
        simpa using this
      case measure => simp [intOf]
    · have hf0 := hb.free 0
      have hf1 := hb.free 1
      have hf2 := hb.free 2
      have hc0 := hb.cell 0 _ rfl
      have hc1 := hb.cell 1 _ rfl
      have hc2 := hb.cell 2 _ rfl
      have hz := hb.lt
      go_wp2
      refine bodyPost_ret (v := .agg #[.int .i64 (p0 : Int), .int .i64 (p1 : Int), .int .i64 (p2 : Int)]) (by simp [results, Tryd.results87, go_sem, hc0, hc1, hc2, hz, hzr, r0, r1', r2']) rfl ⟨rfl, ?_⟩
      repeat (first | exact hO | refine Only.setCell ?_ _ _ (fun hk => absurd hk (by simp)))
end Go.Proofs.YtdcinifcpaldiaaDoor

namespace Go.Proofs.YtdcinifcpaldiaaDoor
open Go.RowKit

def encC (c : Cell) : List Value := [.int .i32 c.1, .int .u64 (c.2.1 : Int), .int .u64 (c.2.2 : Int)]
theorem encC_len : ∀ c, (encC c).length = 3 := fun _ => rfl
theorem ownsRow_set {w : World} {base e size n cap g : Nat} {n' : Nat} {xs : List Value} (hv : w.ownsRow base e size (.slice (some ⟨g, 0, none⟩) n cap) n' xs) (j : Nat) (u : Value) (hj : j < xs.length) :
    (w.setCell ⟨g, j, none⟩ u).ownsRow base e size (.slice (some ⟨g, 0, none⟩) n cap) n' (xs.set j u) := by
  obtain ⟨h1, h2⟩ := hv
  refine ⟨by rw [List.length_set]; exact h1, ?_⟩
  rcases h2 with ⟨h, _⟩ | ⟨g', cap', cur, hv, hb, hh, e1, e2, e3, e4⟩
  · cases h
  · simp at hv
    obtain ⟨rfl, rfl, rfl⟩ := hv
    refine .inr ⟨g, cap, cur.setIfInBounds j u, rfl, hb, ?_, e1, e2, by simpa using e3, ?_⟩
    · have : Blk w g cur e := hh
      exact this.set j u
    · rw [Array.toList_setIfInBounds, ← e4, List.take_set]
theorem ownsRow_cell {w : World} {base e size n cap g : Nat} {n' : Nat} {xs : List Value} (hv : w.ownsRow base e size (.slice (some ⟨g, 0, none⟩) n cap) n' xs) (j : Nat) (u : Value) (hu : xs[j]? = some u) :
    w.cell? ⟨g, j, none⟩ = some u ∧ w.frozen? ⟨g, j, none⟩ = false ∧ base ≤ g ∧ g < w.heap.size := by
  obtain ⟨h1, h2⟩ := hv
  rcases h2 with ⟨h, _⟩ | ⟨g', cap', cur, hv, hb, hh, e1, e2, e3, e4⟩
  · cases h
  · simp at hv
    obtain ⟨rfl, rfl, rfl⟩ := hv
    have hB : Blk w g cur e := hh
    refine ⟨?_, hB.free j, hb, hB.lt⟩
    refine hB.cell j u ?_
    rw [← e4, List.getElem?_take] at hu
    split at hu
    · rw [← Array.getElem?_toList]; exact hu
    · cases hu
theorem fl_modC {L : List Cell} {i x : Nat} {s : Int} (hi : i < L.length) :
    (((fl encC L).set (i * 3) (.int .i32 (w32 ((L.getD i zC).1 + s)))).set (i * 3 + 1) (.int .u64 (((L.getD i zC).2.1 ^^^ x : Nat) : Int))).set (i * 3 + 2) (.int .u64 (((L.getD i zC).2.2 ^^^ chk x : Nat) : Int)) = fl encC (modC L i x s) := by
  have hg : L.getD i zC = L[i] := by simp [List.getD_eq_getElem?_getD, hi]
  unfold modC
  rw [hg]
  rcases hc : L[i] with ⟨n, a, b⟩
  have h1 := fl_set (enc := encC) (k := 3) encC_len hi (j := 0) (by omega) (u := .int .i32 (w32 (n + s))) (y := (w32 (n + s), a, b)) (by rw [hc]; rfl)
  have h2 := fl_set (enc := encC) (k := 3) encC_len (l := L.set i (w32 (n + s), a, b)) (i := i) (by simpa using hi) (j := 1) (by omega) (u := .int .u64 ((a ^^^ x : Nat) : Int)) (y := (w32 (n + s), a ^^^ x, b)) (by simp [encC])
  have h3 := fl_set (enc := encC) (k := 3) encC_len (l := L.set i (w32 (n + s), a ^^^ x, b)) (i := i) (by simpa using hi) (j := 2) (by omega) (u := .int .u64 ((b ^^^ chk x : Nat) : Int)) (y := addC x s (n, a, b)) (by simp [encC, addC])
  rw [Nat.add_zero] at h1
  rw [List.set_set] at h2 h3
  show (((fl encC L).set (i * 3) (.int .i32 (w32 (n + s)))).set (i * 3 + 1) (.int .u64 ((a ^^^ x : Nat) : Int))).set (i * 3 + 2) (.int .u64 ((b ^^^ chk x : Nat) : Int)) = _
  rw [h1, h2, h3]
/-- One of the closure's three steps: what is loaded, reckoned, stored. -/
theorem Only.set1' {g : Nat} {a w : World} (h : Only (· = g) a w) (i : Nat) (u : Value) : Only (· = g) a (w.setCell ⟨g, i, none⟩ u) := h.setCell ⟨g, i, none⟩ u (fun _ => rfl)
theorem Only.row' {S : Nat → Prop} {a w : World} (h : Only S a w) {base e size n : Nat} {v : Value} {xs : List Value} (hv : a.ownsRow base e size v n xs) (he : ∀ k, k < a.heap.size → w.heap[k]? = a.heap[k]? := by intros; rfl) : w.ownsRow base e size v n xs := by
  have hl := hv.lt
  obtain ⟨h1, h2⟩ := hv
  refine ⟨h1, ?_⟩
  rcases h2 with h2 | ⟨g, cap, cur, rfl, hg, hh, r⟩
  · exact .inl h2
  · exact .inr ⟨g, cap, cur, rfl, hg, by rw [he g (hl g rfl).2]; exact hh, r⟩
theorem add_i32 (n s : Int) : IntKind.i32.wrap (n + s) = w32 (n + s) := w32_wrap _
set_option maxRecDepth 100000 in
set_option maxHeartbeats 2000000 in
theorem put1_c (base g n cap i x pb px pc : Nat) (s : Int) (L : List Cell) (w : World) (hv : w.ownsRow base 81 3 (.slice (some ⟨g, 0, none⟩) n cap) L.length (fl encC L)) (hi : i < L.length) (hok : OkL L) (hx : W64 x)
    (hb1 : Blk w pb #[.int .i32 s] 21) (hb2 : Blk w px #[.int .u64 (x : Int)] 25) (hb3 : Blk w pc #[.int .u64 (chk x : Int)] 25) (h1 : pb ≠ g) (h2 : px ≠ g) (h3 : pc ≠ g) :
    Calls Tryd.prog 122 #[.pointer (some ⟨g, i * 3, none⟩), .pointer (some ⟨pb, 0, none⟩), .pointer (some ⟨px, 0, none⟩), .pointer (some ⟨pc, 0, none⟩)] w fun e w' =>
      e = .returned (.tuple #[]) ∧ w'.ownsRow base 81 3 (.slice (some ⟨g, 0, none⟩) n cap) L.length (fl encC (modC L i x s)) ∧ Only (· = g) w w' := by
  have hll := fl_len encC_len L
  have hg0 : ∀ j u, (encC (L.getD i zC))[j]? = some u → j < 3 → (fl encC L)[i * 3 + j]? = some u := by
    intro j u hu hj
    have e : L.getD i zC = L[i] := by simp [List.getD_eq_getElem?_getD, hi]
    rw [e] at hu
    rw [fl_get encC_len hi hj]; exact hu
  have k0 := hg0 0 _ rfl (by omega)
  have k1 := hg0 1 _ rfl (by omega)
  have k2 := hg0 2 _ rfl (by omega)
  rw [Nat.add_zero] at k0
  have hm := fl_modC (x := x) (s := s) hi
  have hokc := hok.get i
  have hcx := w64_chk x
  generalize L.getD i zC = c at *
  obtain ⟨N, a, b⟩ := c
  have hN := add_i32 N s
  have hX1 : bits .xor .u64 (a : Int) (x : Int) = ((a ^^^ x : Nat) : Int) := xor_nat hokc.2.1 hx
  have hX2 : bits .xor .u64 (b : Int) (chk x : Int) = ((b ^^^ chk x : Nat) : Int) := xor_nat hokc.2.2 hcx
  have b1 := hb1.cell 0 _ rfl
  have b2 := hb2.cell 0 _ rfl
  have b3 := hb3.cell 0 _ rfl
  obtain ⟨c0, f0, hbg, hgl⟩ := ownsRow_cell hv _ _ k0
  obtain ⟨c1, f1, -, -⟩ := ownsRow_cell hv _ _ k1
  obtain ⟨c2, f2, -, -⟩ := ownsRow_cell hv _ _ k2
  have HM := Lib.hid hm
  have HV := Lib.hid hv
  have hL3 : i * 3 + 2 < (fl encC L).length := by omega
  have HK := Lib.hid (And.intro k1 (And.intro k2 hL3))
  clear hm hv hll k0 k1 k2 hg0 hok hokc hcx hx c1 f1 c2 f2 hL3
  generalize chk x = ck at *
  go_enter Tryd.func122, Tryd.ntmps122
  go_wp2_with fail
  go_still_tail 8, (by kernel_rfl)
  change wpList _ _ _ _ _ w.drew
  have hv1 := ownsRow_set ((Only.refl (· = g) w).drew.row' HV.out) (i * 3) (.int .i32 (w32 (N + s))) (by have := HK.out.2.2; omega)
  obtain ⟨c1, f1, -, hgl1⟩ := ownsRow_cell hv1 (i * 3 + 1) _ (by rw [List.getElem?_set_ne (by omega)]; exact HK.out.1)
  have hO1 : Only (· = g) w (w.drew.setCell ⟨g, i * 3, none⟩ (.int .i32 (w32 (N + s)))) := ((Only.refl _ w).drew).set1' _ _
  have b2' := (hO1.blk hb2 h2).cell 0 _ rfl
  have d0 : w.drew.cell? ⟨g, i * 3, none⟩ = some (.int .i32 N) := c0
  have e0 : w.drew.frozen? ⟨g, i * 3, none⟩ = false := f0
  generalize w.drew = wa at *
  go_wp2_with fail
  generalize wa.setCell ⟨g, i * 3, none⟩ (.int .i32 (w32 (N + s))) = w1 at *
  clear c0 f0 d0 e0 b1
  go_still_tail 8, (by kernel_rfl)
  change wpList _ _ _ _ _ w1.drew
  have hv2 := ownsRow_set ((Only.refl (· = g) w1).drew.row' hv1) (i * 3 + 1) (.int .u64 ((a ^^^ x : Nat) : Int)) (by rw [List.length_set]; have := HK.out.2.2; omega)
  obtain ⟨c2, f2, -, hgl2⟩ := ownsRow_cell hv2 (i * 3 + 2) _ (by rw [List.getElem?_set_ne (by omega), List.getElem?_set_ne (by omega)]; exact HK.out.2.1)
  have hO2 : Only (· = g) w (w1.drew.setCell ⟨g, i * 3 + 1, none⟩ (.int .u64 ((a ^^^ x : Nat) : Int))) := (hO1.drew).set1' _ _
  have b3' := (hO2.blk hb3 h3).cell 0 _ rfl
  have d1 : w1.drew.cell? ⟨g, i * 3 + 1, none⟩ = some (.int .u64 (a : Int)) := c1
  have e1 : w1.drew.frozen? ⟨g, i * 3 + 1, none⟩ = false := f1
  generalize w1.drew = wb at *
  go_wp2_with fail
  generalize wb.setCell ⟨g, i * 3 + 1, none⟩ (.int .u64 ((a ^^^ x : Nat) : Int)) = w2 at *
  clear c1 f1 d1 e1 b2 b2' hv1 hO1 hgl1
  go_still_tail 8, (by kernel_rfl)
  change wpList _ _ _ _ _ w2.drew
  have hv3 := ownsRow_set ((Only.refl (· = g) w2).drew.row' hv2) (i * 3 + 2) (.int .u64 ((b ^^^ ck : Nat) : Int)) (by rw [List.length_set, List.length_set]; exact HK.out.2.2)
  have hO3 : Only (· = g) w (w2.drew.setCell ⟨g, i * 3 + 2, none⟩ (.int .u64 ((b ^^^ ck : Nat) : Int))) := (hO2.drew).set1' _ _
  have d2 : w2.drew.cell? ⟨g, i * 3 + 2, none⟩ = some (.int .u64 (b : Int)) := c2
  have e2 : w2.drew.frozen? ⟨g, i * 3 + 2, none⟩ = false := f2
  generalize w2.drew = wc at *
  go_wp2_with fail
  go_end0
  rw [← HM.out]
  exact ⟨rfl, hv3, hO3⟩
end Go.Proofs.YtdcinifcpaldiaaDoor

namespace Go.Proofs.YtdcinifcpaldiaaDoor
open Go.RowKit Go.Maps

def eqC (x y : Cell) : Bool := decide (x = y)
theorem cell_guard : Tryd.prog.eqGuardType Tryd.prog.depth 81 = false := by kernel_rfl
@[go_sem] theorem guard_cell (op : BinOp) (x y : Operand) (xs ys : Array Value) (w : World) : (eqGuard op 81 x y (.agg xs) (.agg ys)).run Tryd.prog w = .ok () w := run_eqGuard_agg w op 81 x y xs ys cell_guard
set_option maxRecDepth 100000 in
@[go_sem] theorem equalIn_cell (n m : Int) (x y a b : Nat) (w : World) : (Op.equalIn 10000 81 (.agg #[.int .i32 n, .int .u64 (x : Int), .int .u64 (y : Int)]) (.agg #[.int .i32 m, .int .u64 (a : Int), .int .u64 (b : Int)])).run Tryd.prog w = .ok (eqC (n, x, y) (m, a, b)) w := by
  have u3 := Tryd.underlying21
  have a3 := Tryd.isAgg21
  have z3 := Tryd.sizeOf21
  have u4 := Tryd.underlying25
  have a4 := Tryd.isAgg25
  have z4 := Tryd.sizeOf25
  have hS : Tryd.prog.underlying 81 = some (.struct (Tryd.prog.fieldsOf 81)) := by kernel_rfl
  have hp : Tryd.prog.stoodInHeld 81 = false := by kernel_rfl
  rw [show (10000 : Nat) = 9999 + 1 from rfl, run_equalIn_agg w 9999 81 _ _ hS hp]
  simp only [Program.fieldsOf, Tryd.underlying81]
  go_simp
  unfold eqC
  by_cases h1 : n = m <;> by_cases h2 : x = a <;> by_cases h3 : y = b <;> simp [h1, h2, h3] <;> intros <;> omega
theorem neq_cell (n m : Int) (x y a b : Nat) (w : World) : Sem.run Tryd.prog (binOp .neq 81 (.agg #[.int .i32 n, .int .u64 (x : Int), .int .u64 (y : Int)]) (.agg #[.int .i32 m, .int .u64 (a : Int), .int .u64 (b : Int)])) w = .ok (.bool (!eqC (n, x, y) (m, a, b))) w := by
  rw [run_neq_struct, equalIn_cell]; rfl
theorem RdN.three {w : World} {a : Option Addr} {n cap : Nat} {l : List Cell} (h : RdN 3 w (.slice a n cap) l.length (fl encC l)) {i : Nat} (hi : i < l.length) :
    ∃ b off, a = some ⟨b, off, none⟩ ∧ b < w.heap.size ∧ w.cell? ⟨b, off + i * 3, none⟩ = some (.int .i32 l[i].1) ∧ w.cell? ⟨b, off + i * 3 + 1, none⟩ = some (.int .u64 (l[i].2.1 : Int)) ∧ w.cell? ⟨b, off + i * 3 + 2, none⟩ = some (.int .u64 (l[i].2.2 : Int)) := by
  obtain ⟨-, b, off, h2, h3, h4⟩ := RdN.el encC_len h (by omega)
  refine ⟨b, off, h2, h3, ?_, ?_, ?_⟩
  · have := h4 i hi 0 _ (by omega) rfl
    simpa using this
  · have := h4 i hi 1 _ (by omega) rfl
    rw [← Nat.add_assoc] at this
    simpa using this
  · have := h4 i hi 2 _ (by omega) rfl
    rw [← Nat.add_assoc] at this
    simpa using this
def sameC (A B : List Cell) : Bool := decide (A = B)
set_option maxRecDepth 100000 in
set_option maxHeartbeats 2000000 in
theorem SameC_c (v1 v2 : Value) (A B : List Cell) (w : World) (hR1 : RdN 3 w v1 A.length (fl encC A)) (hR2 : RdN 3 w v2 B.length (fl encC B)) (hl : A.length ≤ 1000000) (hm : B.length ≤ 1000000) :
    Calls Tryd.prog 24 #[v1, v2] w fun e w' => e = .returned (.bool (sameC A B)) ∧ Only No w w' := by
  obtain ⟨a1, cap1, rfl, hcap1⟩ := hR1.cases
  obtain ⟨a2, cap2, rfl, hcap2⟩ := hR2.cases
  obtain ⟨r, hr⟩ : ∃ r : Bool, r = sameC A B := ⟨_, rfl⟩
  rw [← hr]
  have HR := Lib.hid hr
  clear hr
  by_cases hne : A.length = B.length
  · go_enter Tryd.func24, Tryd.ntmps24
    have HN := Lib.hid hne
    rw [hne]
    clear hne
    go_wp2
    go_loopw [5] (fun v5 wr => ∃ i : Nat, i ≤ B.length ∧ v5 = .int .i64 i ∧ A.take i = B.take i ∧ Only No w wr) (fun v5 _ => B.length - (intOf v5).toNat)
    case atStart => exact ⟨0, by omega, rfl, by simp, Only.refl _ _⟩
    case round =>
      obtain ⟨i, hi, rfl, hp, hO⟩ := hrel
      by_cases hlt : i < B.length
      · have hlt1 : i < A.length := by rw [HN.out]; exact hlt
        obtain ⟨b1, o1, rfl, hbl1, hc10, hc11, hc12⟩ := (hR1.no hO).three hlt1
        obtain ⟨b2, o2, rfl, hbl2, hc20, hc21, hc22⟩ := (hR2.no hO).three hlt
        have ht1 := List.take_succ_eq_append_getElem hlt1
        have ht2 := List.take_succ_eq_append_getElem hlt
        have hno : A[i] ≠ B[i] → sameC A B = false := fun h => decide_eq_false (fun e => h (by simp [e]))
        generalize A[i] = x at *
        generalize B[i] = y at *
        obtain ⟨x0, x1, x2⟩ := x
        obtain ⟨y0, y1, y2⟩ := y
        have hneq := neq_cell x0 y0 x1 x2 y1 y2
        have HS := Lib.hid (And.intro hp (And.intro ht1 (And.intro ht2 hno)))
        clear ht1 ht2 hp hno hlt1
        have hi0 : (0 : Int) ≤ (i : Int) := by omega
        have him : (i : Int) < (B.length : Int) := by omega
        cases he : eqC (x0, x1, x2) (y0, y1, y2) with
        | true =>
          rw [he] at hneq
          have hE : (x0, x1, x2) = (y0, y1, y2) := of_decide_eq_true he
          have HE := Lib.hid hE
          clear hE
          go_wp2_with fail
          go_quiet (fail)
          go_wp2
          go_roundw
          case rel => exact ⟨i + 1, by omega, by go_num, by rw [HS.out.2.1, HS.out.2.2.1, HS.out.1, HE.out], hO.drewN _⟩
          case measure => simp [intOf]; omega
        | false =>
          rw [he] at hneq
          have hr : r = false := HR.out.trans (HS.out.2.2.2 (of_decide_eq_false he))
          subst hr
          go_wp2_with fail
          go_quiet (fail)
          go_wp2
          go_ret
          exact ⟨rfl, hO.drewN _⟩
      · have : i = B.length := by omega
        subst this
        have e : A = B := by rw [List.take_length, ← HN.out, List.take_length] at hp; exact hp
        have hr : r = true := HR.out.trans (decide_eq_true e)
        clear hp e
        subst hr
        go_wp2
        go_ret
        exact ⟨rfl, hO⟩
  · have hr : r = false := HR.out.trans (decide_eq_false (fun e => hne (by rw [e])))
    subst hr
    have hne' : ((A.length : Int) != (B.length : Int)) = true := by simp; omega
    go_enter Tryd.func24, Tryd.ntmps24
    go_wp2
    go_ret
    exact ⟨rfl, Only.refl _ _⟩
end Go.Proofs.YtdcinifcpaldiaaDoor

namespace Go.Proofs.YtdcinifcpaldiaaDoor
open Go.RowKit

theorem run_idx3 (p0 p1 p2 : Int) : (∀ w, (Instr.index 114 (.agg #[.int .i64 p0, .int .i64 p1, .int .i64 p2]) (.int .i64 0)).run Tryd.prog w = .ok (.int .i64 p0) w) ∧
    (∀ w, (Instr.index 114 (.agg #[.int .i64 p0, .int .i64 p1, .int .i64 p2]) (.int .i64 1)).run Tryd.prog w = .ok (.int .i64 p1) w) ∧ (∀ w, (Instr.index 114 (.agg #[.int .i64 p0, .int .i64 p1, .int .i64 p2]) (.int .i64 2)).run Tryd.prog w = .ok (.int .i64 p2) w) :=
  ⟨fun _ => by kernel_rfl, fun _ => by kernel_rfl, fun _ => by kernel_rfl⟩
set_option maxRecDepth 100000 in
set_option maxHeartbeats 4000000 in
theorem each_c (base g cap k x pb px pc : Nat) (s : Int) (L : List Cell) (w : World) (hv : w.ownsRow base 81 3 (.slice (some ⟨g, 0, none⟩) L.length cap) L.length (fl encC L)) (hL : L.length = 3 * k) (hk : 1 ≤ k) (hk2 : k ≤ 1365) (hok : OkL L) (hx : W64 x)
    (hb1 : Blk w pb #[.int .i32 s] 21) (hb2 : Blk w px #[.int .u64 (x : Int)] 25) (hb3 : Blk w pc #[.int .u64 (chk x : Int)] 25) (h1 : pb ≠ g) (h2 : px ≠ g) (h3 : pc ≠ g) :
    Calls Tryd.prog 121 #[.slice (some ⟨g, 0, none⟩) L.length cap, .int .u64 (x : Int), .func (.func 122) #[] #[.pointer (some ⟨pb, 0, none⟩), .pointer (some ⟨px, 0, none⟩), .pointer (some ⟨pc, 0, none⟩)]] w fun e w' =>
      e = .returned (.tuple #[]) ∧ w'.ownsRow base 81 3 (.slice (some ⟨g, 0, none⟩) L.length cap) L.length (fl encC (putC L x s)) ∧ Only (· = g) w w' := by
  have hP := places_c k x w hk hk2 hx
  rw [← hL] at hP
  have hput : putC L x s = modC (modC (modC L (place k x 0) x s) (place k x 1) x s) (place k x 2) x s := by unfold putC; rw [show L.length / 3 = k by omega]
  rw [hput]
  have l0 := place_lt hk x 0
  have l1 := place_lt hk x 1
  have l2 := place_lt hk x 2
  have e0 : placesV k x = .agg #[.int .i64 (place k x 0 : Nat), .int .i64 (place k x 1 : Nat), .int .i64 (place k x 2 : Nat)] := rfl
  rw [e0] at hP
  generalize place k x 0 = p0 at *
  generalize place k x 1 = p1 at *
  generalize place k x 2 = p2 at *
  obtain ⟨i0, i1, i2⟩ := run_idx3 (p0 : Int) (p1 : Int) (p2 : Int)
  have q0 : p0 < L.length := by omega
  have q1 : p1 < L.length := by omega
  have q2 : p2 < L.length := by omega
  have hn : L.length ≤ 4095 := by omega
  obtain ⟨n, hnL⟩ : ∃ n : Nat, n = L.length := ⟨_, rfl⟩
  rw [← hnL] at q0 q1 q2 hn
  have HP := Lib.hid hP
  have HX := Lib.hid hx
  have hgl := (hv.lt g rfl).2
  obtain ⟨L1, e1⟩ : ∃ M, M = modC L p0 x s := ⟨_, rfl⟩
  obtain ⟨L2, e2⟩ : ∃ M, M = modC L1 p1 x s := ⟨_, rfl⟩
  have hl1 : L1.length = n := by rw [e1, modC_len, hnL]
  have hl2 : L2.length = n := by rw [e2, modC_len, hl1]
  have ok1 : OkL L1 := by rw [e1]; exact modC_ok hx hok
  have ok2 : OkL L2 := by rw [e2]; exact modC_ok hx ok1
  have H0 := Lib.hid (fun (W : World) (hO : Only (· = g) w W) (hr : W.ownsRow base 81 3 (.slice (some ⟨g, 0, none⟩) n cap) L.length (fl encC L)) => put1_c base g n cap p0 x pb px pc s L W hr (by omega) hok hx (hO.blk hb1 h1) (hO.blk hb2 h2) (hO.blk hb3 h3) h1 h2 h3)
  have H1 := Lib.hid (fun (W : World) (hO : Only (· = g) w W) (hr : W.ownsRow base 81 3 (.slice (some ⟨g, 0, none⟩) n cap) L1.length (fl encC L1)) => put1_c base g n cap p1 x pb px pc s L1 W hr (by omega) ok1 hx (hO.blk hb1 h1) (hO.blk hb2 h2) (hO.blk hb3 h3) h1 h2 h3)
  have H2 := Lib.hid (fun (W : World) (hO : Only (· = g) w W) (hr : W.ownsRow base 81 3 (.slice (some ⟨g, 0, none⟩) n cap) L2.length (fl encC L2)) => put1_c base g n cap p2 x pb px pc s L2 W hr (by omega) ok2 hx (hO.blk hb1 h1) (hO.blk hb2 h2) (hO.blk hb3 h3) h1 h2 h3)
  rw [← e1, ← e2]
  rw [← e1] at H0
  rw [← e2] at H1
  rw [← hnL] at hv HP H0 ⊢
  rw [hl1] at H1
  rw [hl2] at H2
  clear hL hput e0 hP hok ok1 ok2 hx hl1 hl2 e1 e2 hnL hb1 hb2 hb3 l0 l1 l2
  go_enter Tryd.func121, Tryd.ntmps121
  go_wp2_with (go_at_call 126; refine HP.out.mono ?_; rintro e w1 ⟨rfl, hO1⟩)
  have hv1 := hO1.row hv (fun _ _ h => h)
  have hO1' : Only (· = g) w w1 := hO1.of_no
  go_loopw [7, 12] (fun _ v12 wr => Only (· = g) w wr ∧ ((v12 = .int .i64 0 ∧ wr.ownsRow base 81 3 (.slice (some ⟨g, 0, none⟩) n cap) n (fl encC L)) ∨ (v12 = .int .i64 1 ∧ wr.ownsRow base 81 3 (.slice (some ⟨g, 0, none⟩) n cap) n (fl encC L1)) ∨
      (v12 = .int .i64 2 ∧ wr.ownsRow base 81 3 (.slice (some ⟨g, 0, none⟩) n cap) n (fl encC L2)) ∨ (v12 = .int .i64 3 ∧ wr.ownsRow base 81 3 (.slice (some ⟨g, 0, none⟩) n cap) n (fl encC (modC L2 p2 x s))))) (fun _ v12 _ => 3 - (intOf v12).toNat)
  case atStart => exact ⟨hO1', .inl ⟨rfl, hv1⟩⟩
  case round =>
    obtain ⟨hO, hc⟩ := hrel
    rcases hc with ⟨rfl, hr⟩ | ⟨rfl, hr⟩ | ⟨rfl, hr⟩ | ⟨rfl, hr⟩
    · have H := Lib.hid (H0.out wr hO hr)
      go_wp2_with (go_at_call 122; refine H.out.mono ?_; rintro e w2 ⟨rfl, hr2, hO2⟩)
      go_roundw
      case rel => exact ⟨hO.trans hO2, .inr (.inl ⟨rfl, hr2⟩)⟩
      case measure => simp [intOf]
    · have H := Lib.hid (H1.out wr hO hr)
      go_wp2_with (go_at_call 122; refine H.out.mono ?_; rintro e w2 ⟨rfl, hr2, hO2⟩)
      go_roundw
      case rel => exact ⟨hO.trans hO2, .inr (.inr (.inl ⟨rfl, hr2⟩))⟩
      case measure => simp [intOf]
    · have H := Lib.hid (H2.out wr hO hr)
      go_wp2_with (go_at_call 122; refine H.out.mono ?_; rintro e w2 ⟨rfl, hr2, hO2⟩)
      go_roundw
      case rel => exact ⟨hO.trans hO2, .inr (.inr (.inr ⟨rfl, hr2⟩))⟩
      case measure => simp [intOf]
    · go_wp2
      go_end0
      exact ⟨rfl, hr, hO⟩
set_option maxRecDepth 100000 in
set_option maxHeartbeats 2000000 in
theorem cput_c (base : Nat) (v : Value) (k x : Nat) (s : Int) (L : List Cell) (w : World) (hv : w.ownsRow base 81 3 v L.length (fl encC L)) (hL : L.length = 3 * k) (hk : 1 ≤ k) (hk2 : k ≤ 1365) (hok : OkL L) (hx : W64 x) :
    Calls Tryd.prog 84 #[v, .int .u64 (x : Int), .int .i32 s] w fun e w' => e = .returned (.tuple #[]) ∧ w'.ownsRow base 81 3 v L.length (fl encC (putC L x s)) ∧ Only (fun k => v.ownBlock = some k) w w' := by
  obtain ⟨g, cap, rfl, -, hgl, -⟩ := row_cell hv (by omega)
  have hC := Lib.hid (fun w => Check_c x w hx)
  have HE := Lib.hid (fun (pb px pc : Nat) (W : World) (hr : W.ownsRow base 81 3 (.slice (some ⟨g, 0, none⟩) L.length cap) L.length (fl encC L)) (b1 : Blk W pb #[.int .i32 s] 21) (b2 : Blk W px #[.int .u64 (x : Int)] 25) (b3 : Blk W pc #[.int .u64 (chk x : Int)] 25) h1 h2 h3 =>
    each_c base g cap k x pb px pc s L W hr hL hk hk2 hok hx b1 b2 b3 h1 h2 h3)
  clear hL hok hx
  generalize putC L x s = L' at *
  generalize hck : chk x = ck at *
  clear hck
  have HV := Lib.hid hv
  clear hv
  generalize L.length = n at *
  generalize fl encC L = xs at *
  go_enter Tryd.func84, Tryd.ntmps84
  have k1 : Blk ((w.alloc (.cells #[.int .u64 (x : Int)] 25)).alloc (.cells #[.int .i32 s] 21)) w.heap.size #[.int .u64 (x : Int)] 25 := (Blk.new w _ _).alloc _
  have k2 : Blk ((w.alloc (.cells #[.int .u64 (x : Int)] 25)).alloc (.cells #[.int .i32 s] 21)) (w.heap.size + 1) #[.int .i32 s] 21 := by
    have := Blk.new (w.alloc (.cells #[.int .u64 (x : Int)] 25)) #[.int .i32 s] 21
    simpa using this
  have HK := Lib.hid (And.intro k1 k2)
  clear k1 k2
  go_wp2_with (first
    | (go_at_call 120; refine (hC.out _).mono ?_; rintro e w1 ⟨rfl, hO1⟩; have hc1 := ((hO1.blk HK.out.1 id).alloc (.cells #[.int .u64 (ck : Int)] 25)).cell 0 _ rfl)
    | (go_at_call 121; refine (HE.out (w.heap.size + 1) w.heap.size w1.heap.size _ (((((Only.refl No _).alloc _).alloc _).trans hO1).alloc _ |>.row HV.out (fun _ _ h => h)) ((hO1.blk HK.out.2 id).alloc _) ((hO1.blk HK.out.1 id).alloc _) (Blk.new _ _ _) (by omega) (by omega) (by have := hO1.size; simp at this; omega)).mono ?_; rintro e w2 ⟨rfl, hr2, hO2⟩))
  go_end0
  exact ⟨rfl, hr2, (((((Only.refl _ w).alloc _).alloc _).trans hO1.of_no).alloc _).then hO2 (fun i _ e => by rw [e]; rfl)⟩
end Go.Proofs.YtdcinifcpaldiaaDoor
