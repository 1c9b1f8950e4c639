/- A setup turned into the other package's (printed by wip/tools/setups.py). The document's Setups at equal setups. No statement is proved here. -/
import Derived.Test.YtlilhdkaaendlaaSetup
import Derived.Laws.StructEq

namespace Go.Proofs.Ytlilhdkaaendlaa
open Go.RowKit

def zero7 : Array Value := #[.int .i64 0, .slice none 0 0, .bool false, .bool false, .int .i64 0, .int .i64 0, .int .u64 0]
set_option maxRecDepth 100000 in
set_option maxHeartbeats 1600000 in
theorem setup44_c (s : Su) (pv : Value) (w : World) (hp : PrS w pv s.pairs) (hn : s.pairs.length ≤ 1000000) :
    Calls Try.prog 11 #[suV s pv] w fun x w' => ∃ pv', x = .returned (suV s pv') ∧ PrS w' pv' s.pairs ∧ (∀ k, pv'.ownBlock = some k → w.heap.size ≤ k) ∧ Only No w w' := by
  obtain ⟨i0, hi, hz0, hz1, hz2⟩ := info_parts info_rpr
  obtain ⟨n, prs, back, red, room, budget, seed⟩ := s
  obtain ⟨a, cap, rfl, hcells⟩ := hp.form
  simp only at hcells hn ⊢
  clear hp
  have hWA : ∃ Wa : World, Wa = ((w.alloc (.cells #[.int .i64 n, .slice a prs.length cap, .bool back, .bool red, .int .i64 room, .int .i64 budget, .int .u64 seed] 30)).alloc (.cells #[.int .i64 0, .slice none 0 0, .bool false, .bool false, .int .i64 0, .int .i64 0, .int .u64 0] 40)).alloc (.cells #[.int .i64 n, .slice none 0 0, .bool back, .bool red, .int .i64 room, .int .i64 budget, .int .u64 seed] 40) ∧
      Blk Wa w.heap.size #[.int .i64 n, .slice a prs.length cap, .bool back, .bool red, .int .i64 room, .int .i64 budget, .int .u64 seed] 30 ∧ Blk Wa (w.heap.size + 1) zero7 40 ∧ Blk Wa (w.heap.size + 2) #[.int .i64 n, .slice none 0 0, .bool back, .bool red, .int .i64 room, .int .i64 budget, .int .u64 seed] 40 ∧ Only No w Wa ∧ Wa.heap.size = w.heap.size + 3 := by
    refine ⟨_, rfl, ((Blk.new w #[.int .i64 n, .slice a prs.length cap, .bool back, .bool red, .int .i64 room, .int .i64 budget, .int .u64 seed] 30).alloc _).alloc _, ?_, ?_, (((Only.refl _ _).alloc _).alloc _).alloc _, by simp⟩
    · have := (Blk.new (w.alloc (.cells #[.int .i64 n, .slice a prs.length cap, .bool back, .bool red, .int .i64 room, .int .i64 budget, .int .u64 seed] 30)) #[.int .i64 0, .slice none 0 0, .bool false, .bool false, .int .i64 0, .int .i64 0, .int .u64 0] 40).alloc (.cells #[.int .i64 n, .slice none 0 0, .bool back, .bool red, .int .i64 room, .int .i64 budget, .int .u64 seed] 40)
      have h0 : (w.alloc (.cells #[.int .i64 n, .slice a prs.length cap, .bool back, .bool red, .int .i64 room, .int .i64 budget, .int .u64 seed] 30)).heap.size = w.heap.size + 1 := by simp
      rw [h0] at this
      exact this
    · have := Blk.new ((w.alloc (.cells #[.int .i64 n, .slice a prs.length cap, .bool back, .bool red, .int .i64 room, .int .i64 budget, .int .u64 seed] 30)).alloc (.cells #[.int .i64 0, .slice none 0 0, .bool false, .bool false, .int .i64 0, .int .i64 0, .int .u64 0] 40)) #[.int .i64 n, .slice none 0 0, .bool back, .bool red, .int .i64 room, .int .i64 budget, .int .u64 seed] 40
      have h0 : ((w.alloc (.cells #[.int .i64 n, .slice a prs.length cap, .bool back, .bool red, .int .i64 room, .int .i64 budget, .int .u64 seed] 30)).alloc (.cells #[.int .i64 0, .slice none 0 0, .bool false, .bool false, .int .i64 0, .int .i64 0, .int .u64 0] 40)).heap.size = w.heap.size + 2 := by simp
      rw [h0] at this
      exact this
  obtain ⟨Wa, hWa, hB0, hB1, hB2, hOw, hsz⟩ := hWA
  have HA := Lib.hid (And.intro hB0 (And.intro hB1 (And.intro hB2 (And.intro hOw hsz))))
  have HWA := Lib.hid hWa
  clear hB0 hB1 hB2 hOw hsz hWa
  go_enter Try.func11, Try.ntmps11
  unfold suV suL
  go_wp2_with fail
  rw [← HWA.out]
  obtain ⟨hB0, hB1, hB2, hOw, hsz⟩ := HA.out
  have hb2 : w.heap.size + 2 < Wa.heap.size := by omega
  clear hsz
  go_loopg [4] (prs.length : Nat) (fun g v4 wr => ∃ (i : Nat) (pv : Value), i + g = prs.length ∧ v4 = .int .i64 i ∧ Blk wr (w.heap.size + 2) (suL ⟨n, prs, back, red, room, budget, seed⟩ pv).toArray 40 ∧
    Bun wr Wa.heap.size [(88, 2, pv, i, prC (prs.take i))] ∧ Only (fun k => k = w.heap.size + 2 ∨ Wa.heap.size ≤ k) Wa wr)
  case atStart => exact ⟨0, .slice none 0 0, by omega, rfl, hB2, (Bun.nil _ _).cons_nil _ _, Only.refl _ _⟩
  case round =>
    obtain ⟨i, pv, hig, rfl, hB, hBn, hO⟩ := hrel
    obtain ⟨a9, c9, rfl⟩ := bun_form hBn 0 rfl
    have hzr := hO.size
    have hB0r := hO.blk hB0 (by show ¬ (w.heap.size = w.heap.size + 2 ∨ Wa.heap.size ≤ w.heap.size); omega)
    by_cases hlt : i < prs.length
    · obtain ⟨b, off, rfl, hbl, k0, k1⟩ := hcells i hlt
      have hbw : b < Wa.heap.size := Nat.lt_of_lt_of_le hbl hOw.size
      have hnb : ¬ (b = w.heap.size + 2 ∨ Wa.heap.size ≤ b) := by omega
      have p0 := (hO.cell (p := ⟨b, off + i * 2, none⟩) hbw hnb).trans ((hOw.cell (p := ⟨b, off + i * 2, none⟩) hbl id).trans k0)
      have p1 := (hO.cell (p := ⟨b, off + i * 2 + 1, none⟩) hbw hnb).trans ((hOw.cell (p := ⟨b, off + i * 2 + 1, none⟩) hbl id).trans k1)
      have hts : prC (prs.take (i + 1)) = prC (prs.take i) ++ [.int .u8 prs[i].1, .int .u8 prs[i].2] := by rw [List.take_succ_eq_append_getElem hlt, prC_snoc]
      have HTS := Lib.hid hts
      have c01 : wr.cell? ⟨w.heap.size, 1, none⟩ = some (.slice (some ⟨b, off, none⟩) prs.length cap) := hB0r.cell 1 _ rfl
      have c21 : wr.cell? ⟨w.heap.size + 2, 1, none⟩ = some (.slice a9 i c9) := hB.cell 1 _ rfl
      have f21 := hB.free 1
      have hi0 : (0 : Int) ≤ (i : Int) := by omega
      have hil : (i : Int) < (prs.length : Int) := by omega
      have hown : ∀ k, (Value.slice a9 i c9).ownBlock = some k → Wa.heap.size ≤ k := fun k hk => ((hBn.owns 0 _ rfl).lt hk).1
      have hin : i ≤ 1000000 := by omega
      generalize prs[i] = x at *
      have HB := Lib.hid hB
      have HBn := Lib.hid hBn
      have HEf := Lib.hid (fun (W' : World) (h2 : Only (fun k => (Value.slice a9 i c9).ownBlock = some k) wr W') => (show Blk W' (w.heap.size + 2) _ _ ∧ W'.cell? ⟨w.heap.size + 2, 1, none⟩ = some (.slice a9 i c9) ∧ W'.frozen? ⟨w.heap.size + 2, 1, none⟩ = false from by
        have hB3 := h2.blk HB.out (fun e => by have := hown _ e; omega)
        exact ⟨hB3, hB3.cell 1 _ rfl, hB3.free 1⟩))
      have ca : (wr.alloc (.cells #[.int .u8 x.1, .int .u8 x.2] 88)).cell? ⟨w.heap.size + 2, 1, none⟩ = some (.slice a9 i c9) := (((Only.refl No wr).alloc _).blk hB id).cell 1 _ rfl
      clear hB hBn hts k0 k1 hB0r
      go_wp2_with fail
      go_region_law (refine step_append2 1 (by rfl) (.tmp 23) (.tmp 29) 35 (by rfl) Wa.heap.size 88 i0 (.agg #[.int .u8 0, .int .u8 0]) 2 2 Try.underlying35 hi hz0 hz1 hz2 rfl (by decide) _ HBn.out 0 _ _ _ rfl (by rfl) [.int .u8 x.1, .int .u8 x.2] _ wr.heap.size rfl (by rfl) rfl (by simp [Value.oneCell']) (by unfold maxLen; omega) (by omega) (by omega) (by rfl) ?_; intro g capn w5 hBn5 hOn hat; obtain ⟨hB5, hc3, hf3⟩ := HEf.out _ hOn)
      all_goals
        have hS6 : Only (· = w.heap.size + 2) w5 (w5.setCell ⟨w.heap.size + 2, 1, none⟩ (.slice (some ⟨g, 0, none⟩) (i + 1) capn)) := (Only.refl _ _).set1 1 _
        have hB6 := hB5.set 1 (.slice (some ⟨g, 0, none⟩) (i + 1) capn)
        have hBn6 := hBn5.only hS6 (fun k hk e => by have e' : k = w.heap.size + 2 := e; omega)
        have hO6 : Only (fun k => k = w.heap.size + 2 ∨ Wa.heap.size ≤ k) wr (w5.setCell ⟨w.heap.size + 2, 1, none⟩ (.slice (some ⟨g, 0, none⟩) (i + 1) capn)) := (hOn.mono (fun k _ e => .inr (hown k e))).then hS6 (fun k _ e => .inl e)
        clear hS6 hB5 hBn5 hOn
        go_wp2_with fail
        go_roundg (prs.length - (i + 1))
        case measure => omega
        case rel => exact ⟨i + 1, _, by omega, by go_num, hB6, by rw [HTS.out]; simpa [List.set] using hBn6, hO.trans hO6⟩
    · have hil : i = prs.length := by omega
      subst hil
      rw [List.take_length] at hBn
      have hB1r := hO.blk hB1 (by show ¬ (w.heap.size + 1 = w.heap.size + 2 ∨ Wa.heap.size ≤ w.heap.size + 1); omega)
      have c01 : wr.cell? ⟨w.heap.size, 1, none⟩ = some (.slice a prs.length cap) := hB0r.cell 1 _ rfl
      have hil : ¬ (prs.length : Int) < (prs.length : Int) := by omega
      have HF := Lib.hid (And.intro hBn hO)
      clear hBn hO hB0r
      go_wp2_with (first
        | (refine wpList_load_row rfl 40 (.tmp 3) rfl (w.heap.size + 2) rfl _ _ (0, 0) _ hB Try.underlying40 rfl info_rs ?_)
        | (refine wpList_store_row rfl 40 (.tmp 2) (.tmp 32) rfl (w.heap.size + 1) (suL ⟨n, prs, back, red, room, budget, seed⟩ (.slice a9 prs.length c9)).toArray rfl rfl _ _ hB1r info_rs rfl (one_suA _ rfl) ?_))
      refine bodyPost_ret (results_cell_row rfl _ _ (w.heap.size + 1) _ _ _ _ rfl (blk_setRow hB1r _) Try.underlying40 rfl info_rs) rfl ?_
      have hOs : Only (· = w.heap.size + 1) wr (wr.setRow (w.heap.size + 1) (suL ⟨n, prs, back, red, room, budget, seed⟩ (.slice a9 prs.length c9)).toArray) := only_setRow (Only.refl _ _) _ _ (fun _ => rfl)
      have hz0 := hOw.size
      refine ⟨_, rfl, (PrS.of_row (HF.out.1.owns 0 _ rfl)).only hOs (fun k hk _ e => ?_), fun k hk => ?_, ?_⟩
      · have e' : k = w.heap.size + 1 := e
        have := ((HF.out.1.owns 0 _ rfl).lt hk).1
        omega
      · have := ((HF.out.1.owns 0 _ rfl).lt hk).1
        omega
      · exact only_setRow (hOw.then HF.out.2 (fun k hk e => by exfalso; omega)) _ _ (fun hk => by exfalso; omega)
set_option maxRecDepth 100000 in
set_option maxHeartbeats 1600000 in
theorem setup41_c (s : Su) (pv : Value) (w : World) (hp : PrS w pv s.pairs) (hn : s.pairs.length ≤ 1000000) :
    Calls Try.prog 24 #[suV s pv] w fun x w' => ∃ pv', x = .returned (suV s pv') ∧ PrS w' pv' s.pairs ∧ (∀ k, pv'.ownBlock = some k → w.heap.size ≤ k) ∧ Only No w w' := by
  obtain ⟨i0, hi, hz0, hz1, hz2⟩ := info_parts info_gpr
  obtain ⟨n, prs, back, red, room, budget, seed⟩ := s
  obtain ⟨a, cap, rfl, hcells⟩ := hp.form
  simp only at hcells hn ⊢
  clear hp
  have hWA : ∃ Wa : World, Wa = ((w.alloc (.cells #[.int .i64 n, .slice a prs.length cap, .bool back, .bool red, .int .i64 room, .int .i64 budget, .int .u64 seed] 40)).alloc (.cells #[.int .i64 0, .slice none 0 0, .bool false, .bool false, .int .i64 0, .int .i64 0, .int .u64 0] 30)).alloc (.cells #[.int .i64 n, .slice none 0 0, .bool back, .bool red, .int .i64 room, .int .i64 budget, .int .u64 seed] 30) ∧
      Blk Wa w.heap.size #[.int .i64 n, .slice a prs.length cap, .bool back, .bool red, .int .i64 room, .int .i64 budget, .int .u64 seed] 40 ∧ Blk Wa (w.heap.size + 1) zero7 30 ∧ Blk Wa (w.heap.size + 2) #[.int .i64 n, .slice none 0 0, .bool back, .bool red, .int .i64 room, .int .i64 budget, .int .u64 seed] 30 ∧ Only No w Wa ∧ Wa.heap.size = w.heap.size + 3 := by
    refine ⟨_, rfl, ((Blk.new w #[.int .i64 n, .slice a prs.length cap, .bool back, .bool red, .int .i64 room, .int .i64 budget, .int .u64 seed] 40).alloc _).alloc _, ?_, ?_, (((Only.refl _ _).alloc _).alloc _).alloc _, by simp⟩
    · have := (Blk.new (w.alloc (.cells #[.int .i64 n, .slice a prs.length cap, .bool back, .bool red, .int .i64 room, .int .i64 budget, .int .u64 seed] 40)) #[.int .i64 0, .slice none 0 0, .bool false, .bool false, .int .i64 0, .int .i64 0, .int .u64 0] 30).alloc (.cells #[.int .i64 n, .slice none 0 0, .bool back, .bool red, .int .i64 room, .int .i64 budget, .int .u64 seed] 30)
      have h0 : (w.alloc (.cells #[.int .i64 n, .slice a prs.length cap, .bool back, .bool red, .int .i64 room, .int .i64 budget, .int .u64 seed] 40)).heap.size = w.heap.size + 1 := by simp
      rw [h0] at this
      exact this
    · have := Blk.new ((w.alloc (.cells #[.int .i64 n, .slice a prs.length cap, .bool back, .bool red, .int .i64 room, .int .i64 budget, .int .u64 seed] 40)).alloc (.cells #[.int .i64 0, .slice none 0 0, .bool false, .bool false, .int .i64 0, .int .i64 0, .int .u64 0] 30)) #[.int .i64 n, .slice none 0 0, .bool back, .bool red, .int .i64 room, .int .i64 budget, .int .u64 seed] 30
      have h0 : ((w.alloc (.cells #[.int .i64 n, .slice a prs.length cap, .bool back, .bool red, .int .i64 room, .int .i64 budget, .int .u64 seed] 40)).alloc (.cells #[.int .i64 0, .slice none 0 0, .bool false, .bool false, .int .i64 0, .int .i64 0, .int .u64 0] 30)).heap.size = w.heap.size + 2 := by simp
      rw [h0] at this
      exact this
  obtain ⟨Wa, hWa, hB0, hB1, hB2, hOw, hsz⟩ := hWA
  have HA := Lib.hid (And.intro hB0 (And.intro hB1 (And.intro hB2 (And.intro hOw hsz))))
  have HWA := Lib.hid hWa
  clear hB0 hB1 hB2 hOw hsz hWa
  go_enter Try.func24, Try.ntmps24
  unfold suV suL
  go_wp2_with fail
  rw [← HWA.out]
  obtain ⟨hB0, hB1, hB2, hOw, hsz⟩ := HA.out
  have hb2 : w.heap.size + 2 < Wa.heap.size := by omega
  clear hsz
  go_loopg [4] (prs.length : Nat) (fun g v4 wr => ∃ (i : Nat) (pv : Value), i + g = prs.length ∧ v4 = .int .i64 i ∧ Blk wr (w.heap.size + 2) (suL ⟨n, prs, back, red, room, budget, seed⟩ pv).toArray 30 ∧
    Bun wr Wa.heap.size [(90, 2, pv, i, prC (prs.take i))] ∧ Only (fun k => k = w.heap.size + 2 ∨ Wa.heap.size ≤ k) Wa wr)
  case atStart => exact ⟨0, .slice none 0 0, by omega, rfl, hB2, (Bun.nil _ _).cons_nil _ _, Only.refl _ _⟩
  case round =>
    obtain ⟨i, pv, hig, rfl, hB, hBn, hO⟩ := hrel
    obtain ⟨a9, c9, rfl⟩ := bun_form hBn 0 rfl
    have hzr := hO.size
    have hB0r := hO.blk hB0 (by show ¬ (w.heap.size = w.heap.size + 2 ∨ Wa.heap.size ≤ w.heap.size); omega)
    by_cases hlt : i < prs.length
    · obtain ⟨b, off, rfl, hbl, k0, k1⟩ := hcells i hlt
      have hbw : b < Wa.heap.size := Nat.lt_of_lt_of_le hbl hOw.size
      have hnb : ¬ (b = w.heap.size + 2 ∨ Wa.heap.size ≤ b) := by omega
      have p0 := (hO.cell (p := ⟨b, off + i * 2, none⟩) hbw hnb).trans ((hOw.cell (p := ⟨b, off + i * 2, none⟩) hbl id).trans k0)
      have p1 := (hO.cell (p := ⟨b, off + i * 2 + 1, none⟩) hbw hnb).trans ((hOw.cell (p := ⟨b, off + i * 2 + 1, none⟩) hbl id).trans k1)
      have hts : prC (prs.take (i + 1)) = prC (prs.take i) ++ [.int .u8 prs[i].1, .int .u8 prs[i].2] := by rw [List.take_succ_eq_append_getElem hlt, prC_snoc]
      have HTS := Lib.hid hts
      have c01 : wr.cell? ⟨w.heap.size, 1, none⟩ = some (.slice (some ⟨b, off, none⟩) prs.length cap) := hB0r.cell 1 _ rfl
      have c21 : wr.cell? ⟨w.heap.size + 2, 1, none⟩ = some (.slice a9 i c9) := hB.cell 1 _ rfl
      have f21 := hB.free 1
      have hi0 : (0 : Int) ≤ (i : Int) := by omega
      have hil : (i : Int) < (prs.length : Int) := by omega
      have hown : ∀ k, (Value.slice a9 i c9).ownBlock = some k → Wa.heap.size ≤ k := fun k hk => ((hBn.owns 0 _ rfl).lt hk).1
      have hin : i ≤ 1000000 := by omega
      generalize prs[i] = x at *
      have HB := Lib.hid hB
      have HBn := Lib.hid hBn
      have HEf := Lib.hid (fun (W' : World) (h2 : Only (fun k => (Value.slice a9 i c9).ownBlock = some k) wr W') => (show Blk W' (w.heap.size + 2) _ _ ∧ W'.cell? ⟨w.heap.size + 2, 1, none⟩ = some (.slice a9 i c9) ∧ W'.frozen? ⟨w.heap.size + 2, 1, none⟩ = false from by
        have hB3 := h2.blk HB.out (fun e => by have := hown _ e; omega)
        exact ⟨hB3, hB3.cell 1 _ rfl, hB3.free 1⟩))
      have ca : (wr.alloc (.cells #[.int .u8 x.1, .int .u8 x.2] 90)).cell? ⟨w.heap.size + 2, 1, none⟩ = some (.slice a9 i c9) := (((Only.refl No wr).alloc _).blk hB id).cell 1 _ rfl
      clear hB hBn hts k0 k1 hB0r
      go_wp2_with fail
      go_region_law (refine step_append2 1 (by rfl) (.tmp 23) (.tmp 29) 23 (by rfl) Wa.heap.size 90 i0 (.agg #[.int .u8 0, .int .u8 0]) 2 2 Try.underlying23 hi hz0 hz1 hz2 rfl (by decide) _ HBn.out 0 _ _ _ rfl (by rfl) [.int .u8 x.1, .int .u8 x.2] _ wr.heap.size rfl (by rfl) rfl (by simp [Value.oneCell']) (by unfold maxLen; omega) (by omega) (by omega) (by rfl) ?_; intro g capn w5 hBn5 hOn hat; obtain ⟨hB5, hc3, hf3⟩ := HEf.out _ hOn)
      all_goals
        have hS6 : Only (· = w.heap.size + 2) w5 (w5.setCell ⟨w.heap.size + 2, 1, none⟩ (.slice (some ⟨g, 0, none⟩) (i + 1) capn)) := (Only.refl _ _).set1 1 _
        have hB6 := hB5.set 1 (.slice (some ⟨g, 0, none⟩) (i + 1) capn)
        have hBn6 := hBn5.only hS6 (fun k hk e => by have e' : k = w.heap.size + 2 := e; omega)
        have hO6 : Only (fun k => k = w.heap.size + 2 ∨ Wa.heap.size ≤ k) wr (w5.setCell ⟨w.heap.size + 2, 1, none⟩ (.slice (some ⟨g, 0, none⟩) (i + 1) capn)) := (hOn.mono (fun k _ e => .inr (hown k e))).then hS6 (fun k _ e => .inl e)
        clear hS6 hB5 hBn5 hOn
        go_wp2_with fail
        go_roundg (prs.length - (i + 1))
        case measure => omega
        case rel => exact ⟨i + 1, _, by omega, by go_num, hB6, by rw [HTS.out]; simpa [List.set] using hBn6, hO.trans hO6⟩
    · have hil : i = prs.length := by omega
      subst hil
      rw [List.take_length] at hBn
      have hB1r := hO.blk hB1 (by show ¬ (w.heap.size + 1 = w.heap.size + 2 ∨ Wa.heap.size ≤ w.heap.size + 1); omega)
      have c01 : wr.cell? ⟨w.heap.size, 1, none⟩ = some (.slice a prs.length cap) := hB0r.cell 1 _ rfl
      have hil : ¬ (prs.length : Int) < (prs.length : Int) := by omega
      have HF := Lib.hid (And.intro hBn hO)
      clear hBn hO hB0r
      go_wp2_with (first
        | (refine wpList_load_row rfl 30 (.tmp 3) rfl (w.heap.size + 2) rfl _ _ (0, 0) _ hB Try.underlying30 rfl info_ws ?_)
        | (refine wpList_store_row rfl 30 (.tmp 2) (.tmp 32) rfl (w.heap.size + 1) (suL ⟨n, prs, back, red, room, budget, seed⟩ (.slice a9 prs.length c9)).toArray rfl rfl _ _ hB1r info_ws rfl (one_suA _ rfl) ?_))
      refine bodyPost_ret (results_cell_row rfl _ _ (w.heap.size + 1) _ _ _ _ rfl (blk_setRow hB1r _) Try.underlying30 rfl info_ws) rfl ?_
      have hOs : Only (· = w.heap.size + 1) wr (wr.setRow (w.heap.size + 1) (suL ⟨n, prs, back, red, room, budget, seed⟩ (.slice a9 prs.length c9)).toArray) := only_setRow (Only.refl _ _) _ _ (fun _ => rfl)
      have hz0 := hOw.size
      refine ⟨_, rfl, (PrS.of_row (HF.out.1.owns 0 _ rfl)).only hOs (fun k hk _ e => ?_), fun k hk => ?_, ?_⟩
      · have e' : k = w.heap.size + 1 := e
        have := ((HF.out.1.owns 0 _ rfl).lt hk).1
        omega
      · have := ((HF.out.1.owns 0 _ rfl).lt hk).1
        omega
      · exact only_setRow (hOw.then HF.out.2 (fun k hk e => by exfalso; omega)) _ _ (fun hk => by exfalso; omega)
end Go.Proofs.Ytlilhdkaaendlaa

namespace Go.Proofs.Ytlilhdkaaendlaa
open Go.RowKit

theorem p_arr : Try.prog.underlying 88 = some (.array 2 5) := Try.underlying88
theorem p_guard : Try.prog.eqGuardType Try.prog.depth 88 = false := by kernel_rfl
@[go_sem] theorem guard_p (op : BinOp) (x y : Operand) (xs ys : Array Value) (w : World) : (eqGuard op 88 x y (.agg xs) (.agg ys)).run Try.prog w = .ok () w := run_eqGuard_agg w op 88 x y xs ys p_guard
set_option maxRecDepth 100000 in
@[go_sem] theorem equalIn_p (x y : Int) (w : World) : (Op.equalIn 10000 88 (.agg #[.int .u8 x, .int .u8 y]) (.agg #[.int .u8 x, .int .u8 y])).run Try.prog w = .ok true w := by
  have u3 := Try.underlying5
  have a3 := Try.isAgg5
  have z3 := Try.sizeOf5
  rw [show (10000 : Nat) = 9999 + 1 from rfl, Op.equalIn]
  simp only [Sem.run_bind, run_underlying p_arr, Result.andThen_ok]
  simp only [Std.Legacy.Range.forIn_eq_forIn_range', Std.Legacy.Range.size, Nat.sub_zero, Nat.add_sub_cancel, Nat.div_one, List.range'_succ, List.range'_zero, List.forIn_cons, List.forIn_nil]
  go_simp
set_option maxRecDepth 100000 in
set_option maxHeartbeats 1600000 in
theorem rsetups_c (s : Su) (pv1 pv2 : Value) (w : World) (h1 : PrS w pv1 s.pairs) (h2 : PrS w pv2 s.pairs) (hn : s.pairs.length ≤ 1000000) :
    Calls Try.prog 10 #[suV s pv1, suV s pv2] w fun x w' => x = .returned (.bool true) ∧ Only No w w' := by
  obtain ⟨n, prs, back, red, room, budget, seed⟩ := s
  obtain ⟨a, cap, rfl, hc1⟩ := h1.form
  obtain ⟨b, cap2, rfl, hc2⟩ := h2.form
  simp only at hc1 hc2 hn ⊢
  clear h1 h2
  go_enter Try.func10, Try.ntmps10
  unfold suV suL
  go_wp2_with fail
  have hWA : ∃ Wa : World, Wa = ((w.alloc (.cells #[.int .i64 n, .slice a prs.length cap, .bool back, .bool red, .int .i64 room, .int .i64 budget, .int .u64 seed] 40)).alloc (.cells #[.int .i64 n, .slice b prs.length cap2, .bool back, .bool red, .int .i64 room, .int .i64 budget, .int .u64 seed] 40)) ∧
      Wa.cell? ⟨w.heap.size, 1, none⟩ = some (.slice a prs.length cap) ∧ Wa.cell? ⟨w.heap.size + 1, 1, none⟩ = some (.slice b prs.length cap2) ∧ Only No w Wa := by
    refine ⟨_, rfl, ((Blk.new w #[.int .i64 n, .slice a prs.length cap, .bool back, .bool red, .int .i64 room, .int .i64 budget, .int .u64 seed] 40).alloc _).cell 1 _ rfl, ?_, ((Only.refl _ _).alloc _).alloc _⟩
    have := Blk.new (w.alloc (.cells #[.int .i64 n, .slice a prs.length cap, .bool back, .bool red, .int .i64 room, .int .i64 budget, .int .u64 seed] 40)) #[.int .i64 n, .slice b prs.length cap2, .bool back, .bool red, .int .i64 room, .int .i64 budget, .int .u64 seed] 40
    have h0 : (w.alloc (.cells #[.int .i64 n, .slice a prs.length cap, .bool back, .bool red, .int .i64 room, .int .i64 budget, .int .u64 seed] 40)).heap.size = w.heap.size + 1 := by simp
    rw [h0] at this
    exact this.cell 1 _ rfl
  obtain ⟨Wa, hWa, k1, k2, hOw⟩ := hWA
  rw [← hWa]
  have HK := Lib.hid (And.intro k1 (And.intro k2 hOw))
  clear hWa k1 k2 hOw
  go_loopw [5] (fun v5 wr => ∃ i : Nat, i ≤ prs.length ∧ v5 = .int .i64 i ∧ ∃ nd, wr = Wa.drewN nd) (fun v5 _ => prs.length - (intOf v5).toNat)
  case atStart => exact ⟨0, by omega, rfl, 0, rfl⟩
  case round =>
    obtain ⟨i, hi, rfl, nd, rfl⟩ := hrel
    obtain ⟨k1, k2, hOw⟩ := HK.out
    by_cases hlt : i < prs.length
    · obtain ⟨b1, o1, rfl, hb1, p0, p1⟩ := hc1 i hlt
      obtain ⟨b2, o2, rfl, hb2, q0, q1⟩ := hc2 i hlt
      have p0' := (hOw.cell (p := ⟨b1, o1 + i * 2, none⟩) hb1 id).trans p0
      have p1' := (hOw.cell (p := ⟨b1, o1 + i * 2 + 1, none⟩) hb1 id).trans p1
      have q0' := (hOw.cell (p := ⟨b2, o2 + i * 2, none⟩) hb2 id).trans q0
      have q1' := (hOw.cell (p := ⟨b2, o2 + i * 2 + 1, none⟩) hb2 id).trans q1
      have hi0 : (0 : Int) ≤ (i : Int) := by omega
      have hil : (i : Int) < (prs.length : Int) := by omega
      generalize prs[i] = x at *
      clear p0 p1 q0 q1
      go_wp2_with fail
      go_quiet (fail)
      go_wp2
      go_roundw
      case rel => exact ⟨i + 1, by omega, by go_num, _, rfl⟩
      case measure => simp [intOf]; omega
    · have hil : i = prs.length := by omega
      subst hil
      go_wp2_with fail
      go_ret
      exact ⟨rfl, hOw.drewN nd⟩
end Go.Proofs.Ytlilhdkaaendlaa
