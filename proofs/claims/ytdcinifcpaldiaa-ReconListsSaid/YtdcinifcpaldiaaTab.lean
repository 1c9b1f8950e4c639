/- table.rise, table.Of. No statement is proved here. -/
import Derived.Test.YtdcinifcpaldiaaStruct
import Derived.Test.YtdcinifcpaldiaaSift
import Derived.Test.YtdcinifcpaldiaaBitsX
import Derived.Laws.Bits64
import Derived.Laws.Bits64b
namespace Go.Proofs.Ytdcinifcpaldiaa
open Go.RowKit Go.Maps

theorem rise_c (v : Value) (l : List Nat) (w : World) (hR : Rd w v (u64s l)) (hl : l.length ≤ 1000000) (hx : ∀ x ∈ l, W64 x) :
    Calls Try.prog 42 #[v] w fun e w' => ∃ u, e = .returned u ∧ w'.ownsRow w.heap.size 32 1 u (rise l).length (u64s (rise l)) ∧ Only No w w' := by
  have H := Lib.hid (sift_c v (.slice none 0 0) l [] w hR (Rd.nil _ _ _) hl (by simp) hx (by simp))
  have e1 : sOut l [] = rise l := by unfold sOut isIn; simp
  have E := Lib.hid e1
  clear e1
  go_enter Try.func42, Try.ntmps42
  go_wp2_with (go_at_call 24; refine H.out.mono ?_; rintro e w1 ⟨u1, u2, rfl, hB, hO⟩)
  go_ret
  refine ⟨_, rfl, ?_, hO⟩
  have := hB.owns 1 _ rfl
  rw [E.out] at this
  exact this

def encB (x : Nat × Nat) : List Value := [.int .i64 (x.1 : Int), .int .u64 (x.2 : Int)]
theorem encB_len : ∀ x, (encB x).length = 2 := fun _ => rfl
/-- One more number in place k. -/
def addAt (T : List (Nat × Nat)) (k x : Nat) : List (Nat × Nat) := T.set k ((T.getD k (0, 0)).1 + 1, (T.getD k (0, 0)).2 ^^^ x)
def addTo (n : Nat) (T : List (Nat × Nat)) (x : Nat) : List (Nat × Nat) := addAt T (bkt x n) x
def ofN (n : Nat) (r : List Nat) : List (Nat × Nat) := r.foldl (addTo n) (List.replicate (2 ^ n) (0, 0))
def TabOk (m : Nat) (T : List (Nat × Nat)) : Prop := ∀ p ∈ T, p.1 ≤ m ∧ W64 p.2
theorem TabOk.get {m : Nat} {T : List (Nat × Nat)} (h : TabOk m T) (k : Nat) : (T.getD k (0, 0)).1 ≤ m ∧ W64 (T.getD k (0, 0)).2 := by
  rw [List.getD_eq_getElem?_getD]
  cases hk : T[k]? with
  | none => exact ⟨by simp, by simp [W64]⟩
  | some p => exact h p (List.mem_of_getElem? hk)
theorem w64_xor' {a b : Nat} (ha : W64 a) (hb : W64 b) : W64 (a ^^^ b) := Nat.xor_lt_two_pow (n := 64) ha hb
theorem TabOk.add {m : Nat} {T : List (Nat × Nat)} (h : TabOk m T) (k : Nat) {x : Nat} (hx : W64 x) : TabOk (m + 1) (addAt T k x) := by
  intro p hp
  rcases List.mem_or_eq_of_mem_set hp with hp | rfl
  · have := h p hp; exact ⟨by omega, this.2⟩
  · have := h.get k; exact ⟨by show _ + 1 ≤ _; omega, w64_xor' this.2 hx⟩
theorem tabOk_fold (n : Nat) : ∀ (r : List Nat) (m : Nat) (T : List (Nat × Nat)), TabOk m T → (∀ x ∈ r, W64 x) → TabOk (m + r.length) (r.foldl (addTo n) T)
  | [], m, T, h, _ => h
  | x :: r, m, T, h, hx => by
    have := tabOk_fold n r (m + 1) _ (h.add (bkt x n) (hx x (by simp))) (fun y hy => hx y (by simp [hy]))
    rw [List.foldl_cons, List.length_cons, show m + (r.length + 1) = m + 1 + r.length by omega]
    exact this
theorem tab_len (n : Nat) : ∀ (r : List Nat) (T : List (Nat × Nat)), (r.foldl (addTo n) T).length = T.length
  | [], T => rfl
  | x :: r, T => by rw [List.foldl_cons, tab_len n r]; simp [addTo, addAt]
theorem fl_add {T : List (Nat × Nat)} {k x : Nat} (hk : k < T.length) :
    ((fl encB T).toArray.setIfInBounds (k * 2) (.int .i64 (((T.getD k (0, 0)).1 : Nat) + 1))).setIfInBounds (k * 2 + 1) (.int .u64 (((T.getD k (0, 0)).2 ^^^ x : Nat) : Int)) = (fl encB (addAt T k x)).toArray := by
  have hg : T.getD k (0, 0) = T[k] := by simp [List.getD_eq_getElem?_getD, hk]
  have h1 := fl_set (enc := encB) (k := 2) encB_len hk (j := 0) (by omega) (u := .int .i64 ((T[k].1 : Nat) + 1)) (y := (T[k].1 + 1, T[k].2)) rfl
  have h2 := fl_set (enc := encB) (k := 2) encB_len (l := T.set k (T[k].1 + 1, T[k].2)) (i := k) (by simpa using hk) (j := 1) (by omega) (u := .int .u64 ((T[k].2 ^^^ x : Nat) : Int)) (y := (T[k].1 + 1, T[k].2 ^^^ x)) (by simp [encB])
  rw [← h1, List.set_set, Nat.add_zero] at h2
  unfold addAt
  rw [hg, ← h2]
  simp
def ofL (l : List Nat) (b : Int) : List (Nat × Nat) := ofN (cl 12 b) (rise l)
theorem info_bucket : (Try.prog.info? 34).map (fun i => (i.zero, i.size, i.bytes)) = some (some (.agg #[.int .i64 0, .int .u64 0]), 2, 16) := by kernel_rfl
theorem make_bks (n : Nat) (W : World) (hn : n ≤ 1000000) : (Instr.makeSlice 31 (.int .i64 (n : Int)) (.int .i64 (n : Int))).run Try.prog W =
    .ok (.slice (some ⟨W.heap.size, 0, none⟩) n n) (W.alloc (.cells (fl encB (List.replicate n (0, 0))).toArray 34)) := by
  obtain ⟨i0, hi, hz0, hz1, hz2⟩ := info_parts info_bucket
  have := run_make W 31 34 i0 _ Try.underlying31 hi hz0 .i64 .i64 (n : Int) (n : Int) (by omega) (by omega) (by rw [hz2]; omega) (by omega)
  rw [hz1] at this
  have hm := fl_made (enc := encB) (z := (0, 0)) (zs := #[.int .i64 0, .int .u64 0]) rfl n (by decide)
  simp only [Int.toNat_natCast] at this
  rw [← hm]
  exact this

set_option maxRecDepth 100000 in
set_option maxHeartbeats 1000000 in
theorem Of_c (v : Value) (l : List Nat) (b : Int) (w : World) (hR : Rd w v (u64s l)) (hl : l.length ≤ 1000000) (hx : ∀ x ∈ l, W64 x) :
    Calls Try.prog 28 #[v, .int .i64 b] w fun e w' => ∃ g, e = .returned (.slice (some ⟨g, 0, none⟩) (ofL l b).length (ofL l b).length) ∧ w.heap.size ≤ g ∧ Blk w' g (fl encB (ofL l b)).toArray 34 ∧ Only No w w' := by
  have HC := Lib.hid (clip_c b w)
  unfold ofL
  have hn := cl_le 12 b
  generalize cl 12 b = n at *
  obtain ⟨M, hM⟩ : ∃ M : Nat, M = 2 ^ n := ⟨_, rfl⟩
  have hMb : M ≤ 4096 := by rw [hM]; exact Nat.pow_le_pow_right (n := 2) (by omega) hn
  have hw2 : wrap64 (2 ^ n) = (M : Int) := by
    have e : ((2 : Int) ^ n) = ((2 ^ n : Nat) : Int) := by simp
    rw [e, ← hM]
    exact IntWalk.wrap64_in _ (by omega)
  have hmk : ∀ W : World, (Instr.makeSlice 31 (.int .i64 (wrap64 (2 ^ n))) (.int .i64 (wrap64 (2 ^ n)))).run Try.prog W = .ok (.slice (some ⟨W.heap.size, 0, none⟩) M M) (W.alloc (.cells (fl encB (List.replicate M (0, 0))).toArray 34)) := by
    intro W
    rw [hw2]
    exact make_bks M W (by omega)
  clear hw2
  have hof : ∀ r : List Nat, ofN n r = r.foldl (addTo n) (List.replicate M (0, 0)) := fun r => by rw [hM]; rfl
  have hlen : ∀ r : List Nat, (r.foldl (addTo n) (List.replicate M (0, 0))).length = M := fun r => by rw [tab_len]; simp
  have hbk : ∀ x, W64 x → bkt x n < M := fun x hx => by
    have := bkt_lt (n : Int) hx
    rw [cl_mid (by omega)] at this
    rw [hM]; exact this
  rw [hof, hlen]
  have HF := Lib.hid (And.intro hlen hbk)
  clear hM hof hlen hbk
  have HR := Lib.hid (rise_c v l)
  go_enter Try.func28, Try.ntmps28
  go_wp2_with (go_at_call 45; refine HC.out.mono ?_; rintro e w' ⟨rfl, rfl⟩)
  generalize hW0 : w.alloc (.cells (fl encB (List.replicate M (0, 0))).toArray 34) = W0
  have hO0 : Only No w W0 := by rw [← hW0]; exact (Only.refl _ _).alloc _
  have hb0 : Blk W0 w.heap.size (fl encB (List.replicate M (0, 0))).toArray 34 := by rw [← hW0]; exact Blk.new w _ _
  have HR2 := Lib.hid (HR.out W0 (hR.no hO0) hl hx)
  clear HR
  go_wp2_with (go_at_call 42; refine HR2.out.mono ?_; rintro e w1 ⟨u, rfl, hrow, hO1⟩; obtain ⟨ra, rc, rfl, hrc⟩ := (Rd.of_row hrow).cases)
  have hRr := Rd.of_row hrow
  have hb1 := hO1.blk hb0 id
  have hrl : (rise l).length ≤ 1000000 := Nat.le_trans (rise_len l) hl
  have hrx := w64_rise hx
  have hnb : ∀ b, (Value.slice ra (u64s (rise l)).length rc).ownBlock = some b → b ≠ w.heap.size := fun b hb e => by have := (hrow.lt b hb).1; have := hb0.lt; omega
  have HN := Lib.hid hnb
  clear hrow hnb hR hx hl HR2
  rw [u64s_len] at *
  generalize hrr : rise l = r at *
  have HRR := Lib.hid hrr
  clear hrr
  go_wp2
  go_loopw [7, 8, 18] (fun v7 v8 v18 wr => ∃ i : Nat, i ≤ r.length ∧ v18 = .int .i64 i ∧ Blk wr w.heap.size (fl encB ((r.take i).foldl (addTo n) (List.replicate M (0, 0)))).toArray 34 ∧ Only (· = w.heap.size) w1 wr) (fun _ _ v18 _ => r.length - (intOf v18).toNat)
  case atStart => exact ⟨0, by omega, rfl, hb1, Only.refl _ _⟩
  case round =>
    obtain ⟨i, hi, rfl, hb, hO⟩ := hrel
    by_cases hlt : i < r.length
    · obtain ⟨-, bb, off, rfl, hbl, hcell⟩ := hRr.at (by rw [u64s_len]; omega)
      have hne : bb ≠ w.heap.size := HN.out bb rfl
      have hc2 := (hO.cell (p := ⟨bb, off + i, none⟩) hbl hne).trans (hcell i _ (u64s_get hlt))
      have hts : (r.take (i + 1)).foldl (addTo n) (List.replicate M (0, 0)) = addAt ((r.take i).foldl (addTo n) (List.replicate M (0, 0))) (bkt r[i] n) r[i] := by
        rw [List.take_succ_eq_append_getElem hlt, List.foldl_append]; rfl
      have hxx := hrx r[i] (List.getElem_mem hlt)
      have hkM := HF.out.2 _ hxx
      have hTl := HF.out.1 (r.take i)
      have hTok := tabOk_fold n (r.take i) 0 (List.replicate M (0, 0)) (fun p hp => by rw [List.eq_of_mem_replicate hp]; exact ⟨Nat.le_refl _, by simp [W64]⟩) (fun x hx => hrx x (List.take_subset _ _ hx))
      rw [List.length_take] at hTok
      generalize r[i] = x at *
      generalize (r.take i).foldl (addTo n) (List.replicate M (0, 0)) = T at *
      have hB := Bucket_c x n wr hxx
      generalize bkt x n = k at *
      have hg := hTok.get k
      have hadd := fl_add (T := T) (k := k) (x := x) (by omega)
      have hcT : ∀ j u, (encB (T.getD k (0, 0)))[j]? = some u → j < 2 → wr.cell? ⟨w.heap.size, k * 2 + j, none⟩ = some u := by
        intro j u hu hj
        refine hb.cell _ _ ?_
        have e : T.getD k (0, 0) = T[k] := by simp [List.getD_eq_getElem?_getD, show k < T.length by omega]
        rw [e] at hu
        simpa using (fl_get (enc := encB) encB_len (show k < T.length by omega) hj).trans hu
      have hc0 := hcT 0 _ rfl (by omega)
      have hc1 := hcT 1 _ rfl (by omega)
      rw [Nat.add_zero] at hc0
      have hf : ∀ j, wr.frozen? ⟨w.heap.size, j, none⟩ = false := fun j => hb.free j
      have hf0 := hf (k * 2)
      have hf1 := hf (k * 2 + 1)
      generalize (T.getD k (0, 0)).1 = c at *
      generalize (T.getD k (0, 0)).2 = z at *
      have hxor : bits .xor .u64 (z : Int) (x : Int) = ((z ^^^ x : Nat) : Int) := bits_xor_u64_nat _ _ hg.2 hxx
      have hcb : c ≤ 1000000 := by omega
      have HB := Lib.hid hB
      have HS := Lib.hid (And.intro hts hadd)
      have hwl := hb.lt
      have HBK := Lib.hid hb
      clear hcell hts hxx hB hg hadd hcT hf hb hTok
      go_wp2_with (go_at_call 44; refine HB.out.mono ?_; rintro e w' ⟨rfl, rfl⟩)
      go_roundw
      case rel =>
        refine ⟨i + 1, by omega, by go_num, ?_, (hO.setCell _ _ (fun _ => rfl)).setCell _ _ (fun _ => rfl)⟩
        rw [HS.out.1, ← HS.out.2]
        exact (HBK.out.set _ _).set _ _
      case measure => simp [intOf]; omega
    · have : i = r.length := by omega
      subst this
      rw [List.take_length] at hb
      go_wp2
      go_ret
      refine ⟨_, rfl, Nat.le_refl _, ?_, ((hO0.trans hO1).then hO (fun i hi e => by omega))⟩
      rw [HRR.out]
      exact hb
end Go.Proofs.Ytdcinifcpaldiaa
