/- pack: numbers as bytes (Size, fill, Var, Put). No statement is proved here. -/
import Derived.Test.YtdcinifcpaldiaaDoorSlen
import Derived.Test.YtdcinifcpaldiaaDoorApp
import Derived.Test.YtdcinifcpaldiaaDoorCodeP
import Derived.IntWalk
import Derived.Test.YtdcinifcpaldiaaDoorRange
namespace Go.Proofs.YtdcinifcpaldiaaDoor
open Go.RowKit

def u8s (l : List Nat) : List Value := l.map fun (x : Nat) => Value.int .u8 (x : Int)
@[simp] theorem u8s_len (l : List Nat) : (u8s l).length = l.length := by simp [u8s]
theorem u8s_get {l : List Nat} {i : Nat} (h : i < l.length) : (u8s l)[i]? = some (.int .u8 (l[i] : Int)) := by simp [u8s, h]
theorem u8s_snoc (l : List Nat) (x : Nat) : u8s (l ++ [x]) = u8s l ++ [.int .u8 (x : Int)] := by simp [u8s]
theorem u8s_append (l m : List Nat) : u8s (l ++ m) = u8s l ++ u8s m := by simp [u8s]
theorem info_u8 : (Tryd.prog.info? 5).map (fun i => (i.zero, i.size, i.bytes)) = some (some (.int .u8 0), 1, 1) := by kernel_rfl

theorem bitLen_small : ∀ n : Fin 128, Lib.bitLen n.val ≤ 7 := by decide +kernel
theorem size_var : ∀ (x : Nat), x < 2 ^ 64 → max ((Lib.bitLen x + 7 - 1) / 7) 1 = (varL x).length := by
  intro x
  induction x using Nat.strongRecOn with
  | _ x ih =>
    intro hx
    by_cases h : x < 128
    · have := bitLen_small ⟨x, h⟩
      simp only at this
      rw [varL_low h, List.length_singleton]
      omega
    · have e := Lib.bitLen_shift 7 x (by omega) hx
      rw [show (2 : Nat) ^ 7 = 128 from rfl] at e
      have i := ih (x / 128) (by omega) (by omega)
      have hb : 1 ≤ Lib.bitLen (x / 128) := by
        rw [Lib.bitLen_half (x / 128) (by omega) (by omega)]; omega
      rw [varL_high h, List.length_cons, ← i, e]
      omega
theorem bitLen_le64 (x : Nat) (hx : x < 2 ^ 64) : Lib.bitLen x ≤ 70 := by
  have h1 := size_var x hx
  have h2 := (varL_len x hx).2
  omega
theorem Len_c (x : Nat) (w : World) (hx : W64 x) : Calls Tryd.prog 140 #[.int .u64 (x : Int)] w fun e w' => e = .returned (.int .i64 (Lib.bitLen x : Nat)) ∧ w = w' := by
  have H := Lib.hid (sou_bits_Len64 (x : Int) w (by omega) (by unfold W64 at hx; omega))
  go_enter Tryd.func140, Tryd.ntmps140
  go_wp2_with (go_at_call 154; refine H.out.mono ?_; rintro e w' ⟨rfl, rfl⟩)
  go_ret
  exact ⟨by simp, rfl⟩
theorem Size_pack (x : Nat) (w : World) (hx : W64 x) : Calls Tryd.prog 112 #[.int .u64 (x : Int)] w fun e w' => e = .returned (.int .i64 ((varL x).length : Nat)) ∧ w = w' := by
  have H := Lib.hid (Len_c x w hx)
  have h1 := size_var x hx
  have h2 := bitLen_le64 x hx
  generalize (varL x).length = r at *
  generalize Lib.bitLen x = b at *
  have HR := Lib.hid h1
  have hmx : max (((b : Int) + 7 - 1) / 7) 1 = (r : Int) := by omega
  clear h1
  go_enter Tryd.func112, Tryd.ntmps112
  go_wp2_with (go_at_call 140; refine H.out.mono ?_; rintro e w' ⟨rfl, rfl⟩)
  go_ret
  exact ⟨by simp, rfl⟩
theorem make_u8 (n : Nat) (W : World) (hn : n ≤ 1000000) : (Instr.makeSlice 28 (.int .i64 (n : Int)) (.int .i64 (n : Int))).run Tryd.prog W =
    .ok (.slice (some ⟨W.heap.size, 0, none⟩) n n) (W.alloc (.cells (u8s (List.replicate n 0)).toArray 5)) := by
  obtain ⟨i0, hi, hz0, hz1, hz2⟩ := info_parts info_u8
  have := run_make W 28 5 i0 _ Tryd.underlying28 hi hz0 .i64 .i64 (n : Int) (n : Int) (by omega) (by omega) (by rw [hz2]; omega) (by omega)
  rw [hz1] at this
  have hm := fl_made (enc := fun x : Nat => [Value.int .u8 (x : Int)]) (z := 0) (zs := #[.int .u8 0]) rfl n (by decide)
  have e : fl (fun x : Nat => [Value.int .u8 (x : Int)]) (List.replicate n 0) = u8s (List.replicate n 0) := by unfold fl u8s; rw [List.flatMap_replicate, List.map_replicate]; simp
  rw [e] at hm
  simp only [Int.toNat_natCast] at this
  rw [← hm]
  exact this
theorem fill_step (f : Nat → Nat) {n i : Nat} (h : i < n) : ((List.range i).map f ++ List.replicate (n - i) 0).set i (f i) = (List.range (i + 1)).map f ++ List.replicate (n - (i + 1)) 0 := by
  rw [List.set_append_right _ _ (by simp), List.length_map, List.length_range, Nat.sub_self, show n - i = (n - (i + 1)) + 1 by omega, List.replicate_succ, List.set_cons_zero, List.range_succ, List.map_append, List.append_assoc]
  rfl
theorem u8s_set (l : List Nat) (i x : Nat) : (u8s l).set i (.int .u8 (x : Int)) = u8s (l.set i x) := by unfold u8s; rw [List.map_set]
set_option maxRecDepth 100000 in
set_option maxHeartbeats 1000000 in
theorem fill_c (n : Nat) (fm : FuncId) (cm : Array Value) (f : Nat → Nat) (w : World) (hn : n ≤ 1000000) (ent : ∀ (args : Array Value) (W : World), (callFunc fm args).run Tryd.prog W = .ok (.enter fm args) W)
    (hc : ∀ (i : Nat) (W : World), i < n → Only (fun k => w.heap.size ≤ k) w W → Calls Tryd.prog fm (#[.int .i64 (i : Int)] ++ cm) W fun e w' => e = .returned (.int .u8 (f i : Nat)) ∧ W = w') :
    Calls Tryd.prog 113 #[.int .i64 (n : Int), .func (.func fm) #[] cm] w fun e w' => e = .returned (.slice (some ⟨w.heap.size, 0, none⟩) n n) ∧ Blk w' w.heap.size (u8s ((List.range n).map f)).toArray 5 ∧ Only No w w' := by
  have hmk := fun W => make_u8 n W hn
  have HC := Lib.hid hc
  have HF := Lib.hid (fun (i : Nat) (h : i < n) => fill_step f h)
  clear hc
  go_enter Tryd.func113, Tryd.ntmps113
  go_wp2
  generalize hW1 : w.alloc (.cells (u8s (List.replicate n 0)).toArray 5) = w1
  have hO1 : Only (fun k => w.heap.size ≤ k) w w1 := by rw [← hW1]; exact (Only.refl _ _).alloc _
  have hB1 : Blk w1 w.heap.size (u8s ((List.range 0).map f ++ List.replicate (n - 0) 0)).toArray 5 := by rw [← hW1]; exact Blk.new w _ _
  clear hmk hW1
  go_loopw [6, 11] (fun _ v11 wr => ∃ i : Nat, i ≤ n ∧ v11 = .int .i64 i ∧ Blk wr w.heap.size (u8s ((List.range i).map f ++ List.replicate (n - i) 0)).toArray 5 ∧ Only (fun k => w.heap.size ≤ k) w wr) (fun _ v11 _ => n - (intOf v11).toNat)
  case atStart => exact ⟨0, Nat.zero_le _, rfl, hB1, hO1⟩
  case round =>
    obtain ⟨i, hi, rfl, hB, hO⟩ := hrel
    by_cases hlt : i < n
    · have hi0 : (0 : Int) ≤ (i : Int) := by omega
      have hin : (i : Int) < (n : Int) := by omega
      have hf0 := hB.free (0 + i)
      have hcur : wr.cell? ⟨w.heap.size, 0 + i, none⟩ = some (.int .u8 0) := by
        refine hB.cell _ _ ?_
        rw [Nat.zero_add, List.getElem?_toArray]
        have : ((List.range i).map f ++ List.replicate (n - i) 0)[i]? = some 0 := by
          rw [List.getElem?_append_right (by simp), List.length_map, List.length_range, Nat.sub_self, List.getElem?_replicate, if_pos (by omega)]
        unfold u8s
        rw [List.getElem?_map, this]; rfl
      have hS := hB.set (0 + i) (.int .u8 (f i : Int))
      rw [Nat.zero_add, List.setIfInBounds_toArray, u8s_set, HF.out i hlt] at hS
      have HS := Lib.hid hS
      have HB := Lib.hid hB
      clear hB hS
      rw [Nat.zero_add] at hf0 hcur
      go_wp2_with (refine (HC.out i wr hlt hO).mono ?_; rintro e w' ⟨rfl, rfl⟩)
      go_roundw
      case rel => exact ⟨i + 1, by omega, by go_num, HS.out, hO.setCell _ _ (fun h => absurd h (by show ¬ w.heap.size < w.heap.size; omega))⟩
      case measure => simp [intOf]; omega
    · obtain rfl : i = n := by omega
      rw [Nat.sub_self, List.replicate_zero, List.append_nil] at hB
      go_wp2
      go_ret
      exact ⟨rfl, hB, hO.mono (fun k hk hs => by omega)⟩
/-- The i-th byte of a number in groups. -/
def varB (x : Nat) (n i : Nat) : Nat := if i + 1 < n then 128 + x / 2 ^ (7 * i) % 128 else x / 2 ^ (7 * i) % 128
theorem varL_at : ∀ (x : Nat), varL x = (List.range (varL x).length).map (varB x (varL x).length) := by
  intro x
  induction x using Nat.strongRecOn with
  | _ x ih =>
    by_cases h : x < 128
    · rw [varL_low h]
      show [x] = [varB x 1 0]
      unfold varB
      rw [if_neg (by omega)]
      simp
      omega
    · have hq := ih (x / 128) (by omega)
      have hp : 0 < (varL (x / 128)).length := by
        unfold varL
        split <;> simp
      rw [varL_high h, List.length_cons, List.range_succ_eq_map, List.map_cons, List.map_map]
      congr 1
      · unfold varB
        rw [if_pos (by omega)]
        simp
      · conv => lhs; rw [hq]
        refine List.map_congr_left (fun i _ => ?_)
        have e : x / 2 ^ (7 * (i + 1)) = x / 128 / 2 ^ (7 * i) := by
          rw [Nat.div_div_eq_div_mul, show 7 * (i + 1) = 7 + 7 * i by omega, Nat.pow_add]
        simp only [Function.comp, varB, Nat.succ_eq_add_one, e]
        by_cases hi : i + 1 < (varL (x / 128)).length
        · rw [if_pos hi, if_pos (by omega)]
        · rw [if_neg hi, if_neg (by omega)]
theorem andn128 : ∀ y : Fin 256, bits .andNot .u8 (y.val : Int) 128 = ((y.val % 128 : Nat) : Int) := by decide +kernel
theorem or128 : ∀ y : Fin 128, bits .or .u8 (y.val : Int) 128 = ((128 + y.val : Nat) : Int) := by decide +kernel
theorem low7 (x i : Nat) : bits .andNot .u8 ((x : Int) / 2 ^ (7 * i) % 256) 128 = ((x / 2 ^ (7 * i) % 128 : Nat) : Int) := by
  have e : ((x : Int) / 2 ^ (7 * i) % 256) = ((x / 2 ^ (7 * i) % 256 : Nat) : Int) := by simp
  rw [e]
  generalize x / 2 ^ (7 * i) = q
  have := andn128 ⟨q % 256, by omega⟩
  simp only at this
  rw [this]
  omega
theorem high7 (x i : Nat) : bits .or .u8 ((x / 2 ^ (7 * i) % 128 : Nat) : Int) 128 = ((128 + x / 2 ^ (7 * i) % 128 : Nat) : Int) := by
  generalize x / 2 ^ (7 * i) = q
  exact or128 ⟨q % 128, by omega⟩
set_option maxRecDepth 100000 in
theorem put1_pack (x i b : Nat) (w : World) (hi : i < 8) (hb : Blk w b #[.int .u64 (x : Int)] 25) :
    Calls Tryd.prog 116 #[.int .i64 (i : Int), .pointer (some ⟨b, 0, none⟩)] w fun e w' => e = .returned (.int .u8 (x / 2 ^ (8 * i) % 256 : Nat)) ∧ w = w' := by
  have c1 := hb.cell 0 _ rfl
  go_enter Tryd.func116, Tryd.ntmps116
  go_wp2
  go_ret
  exact ⟨ret_eq (congrArg (Value.int .u8) (by simp)), rfl⟩
set_option maxRecDepth 100000 in
theorem var1_pack (x i b b2 n : Nat) (w : World) (hi : i < n) (hn : n ≤ 10) (hb : Blk w b #[.int .u64 (x : Int)] 25) (hb2 : Blk w b2 #[.int .i64 ((n : Int) - 1)] 3) :
    Calls Tryd.prog 114 #[.int .i64 (i : Int), .pointer (some ⟨b, 0, none⟩), .pointer (some ⟨b2, 0, none⟩)] w fun e w' => e = .returned (.int .u8 (varB x n i : Nat)) ∧ w = w' := by
  have c1 := hb.cell 0 _ rfl
  have c2 := hb2.cell 0 _ rfl
  by_cases h : i + 1 < n
  · have h1 : (i : Int) < (n : Int) - 1 := by omega
    go_enter Tryd.func114, Tryd.ntmps114
    go_wp2
    go_ret
    refine ⟨ret_eq (congrArg (Value.int .u8) ?_), rfl⟩
    rw [low7, high7, varB, if_pos h]
  · have h1 : ¬ (i : Int) < (n : Int) - 1 := by omega
    go_enter Tryd.func114, Tryd.ntmps114
    go_wp2
    go_ret
    refine ⟨ret_eq (congrArg (Value.int .u8) ?_), rfl⟩
    rw [low7, varB, if_neg h]
theorem varL_pos (x : Nat) : 1 ≤ (varL x).length := by unfold varL; split <;> simp
set_option maxRecDepth 100000 in
theorem Var_pack (x : Nat) (w : World) (hx : W64 x) :
    Calls Tryd.prog 73 #[.int .u64 (x : Int)] w fun e w' => ∃ g, e = .returned (.slice (some ⟨g, 0, none⟩) (varL x).length (varL x).length) ∧ w.heap.size ≤ g ∧ Blk w' g (u8s (varL x)).toArray 5 ∧ Only No w w' := by
  have HS := Lib.hid (fun w => Size_pack x w hx)
  have hl := varL_len x hx
  have HL := Lib.hid (varL_at x)
  generalize hn : (varL x).length = n at *
  go_enter Tryd.func73, Tryd.ntmps73
  go_wp2_with (go_at_call 112; refine (HS.out _).mono ?_; rintro e w' ⟨rfl, rfl⟩)
  generalize hW : (w.alloc _).alloc _ = W
  have hb1 : Blk W w.heap.size #[.int .u64 (x : Int)] 25 := by rw [← hW]; exact (Blk.new w _ _).alloc _
  have hb2 : Blk W (w.heap.size + 1) #[.int .i64 ((n : Int) - 1)] 3 := by
    rw [← hW]
    have := Blk.new (w.alloc (.cells #[.int .u64 (x : Int)] 25)) #[.int .i64 ((n : Int) - 1)] 3
    simpa using this
  have hO : Only No w W := by rw [← hW]; exact ((Only.refl _ _).alloc _).alloc _
  have HFi := Lib.hid (fill_c n 114 #[.pointer (some ⟨w.heap.size, 0, none⟩), .pointer (some ⟨w.heap.size + 1, 0, none⟩)] (varB x n) W (by omega) (enters_of Tryd.func114 (by kernel_rfl) rfl)
    (fun i W2 hi hO2 => var1_pack x i _ _ n W2 hi hl.2 (hO2.blk hb1 (by have := hb1.lt; omega)) (hO2.blk hb2 (by have := hb2.lt; omega))))
  clear hW hb1 hb2
  have hz := hO.size
  go_wp2_with (go_at_call 113; refine HFi.out.mono ?_; rintro e w' ⟨rfl, hb, hO2⟩)
  go_ret
  exact ⟨_, rfl, hz, by rw [← HL.out] at hb; exact hb, hO.trans hO2⟩
theorem right_c (w : World) : Calls Tryd.prog 115 #[.int .i64 8] w fun e w' => e = .returned (.bool true) ∧ w = w' := by
  go_enter Tryd.func115, Tryd.ntmps115
  go_wp2
  go_ret
  exact ⟨rfl, rfl⟩
set_option maxRecDepth 100000 in
theorem Put_pack (x : Nat) (w : World) :
    Calls Tryd.prog 75 #[.int .u64 (x : Int), .int .i64 8] w fun e w' => ∃ g, e = .returned (.slice (some ⟨g, 0, none⟩) 8 8) ∧ w.heap.size ≤ g ∧ Blk w' g (u8s (put8 x)).toArray 5 ∧ Only No w w' := by
  go_enter Tryd.func75, Tryd.ntmps75
  go_wp2_with (go_at_call 115; refine (right_c _).mono ?_; rintro e w' ⟨rfl, rfl⟩)
  generalize hW : w.alloc _ = W
  have hb1 : Blk W w.heap.size #[.int .u64 (x : Int)] 25 := by rw [← hW]; exact Blk.new w _ _
  have hO : Only No w W := by rw [← hW]; exact (Only.refl _ _).alloc _
  have HFi := Lib.hid (fill_c 8 116 #[.pointer (some ⟨w.heap.size, 0, none⟩)] (fun i => x / 2 ^ (8 * i) % 256) W (by omega) (enters_of Tryd.func116 (by kernel_rfl) rfl)
    (fun i W2 hi hO2 => put1_pack x i _ W2 hi (hO2.blk hb1 (by have := hb1.lt; omega))))
  clear hW hb1
  have hz := hO.size
  go_wp2_with (go_at_call 113; refine HFi.out.mono ?_; rintro e w' ⟨rfl, hb, hO2⟩)
  go_ret
  exact ⟨_, rfl, hz, hb, hO.trans hO2⟩
/-- An empty slice that is not nil. -/
theorem bun_empty (w : World) (base : Nat) (e : TypeId) (size : Nat) (hb : base ≤ w.heap.size) : Bun (w.alloc (.cells #[] e)) base [(e, size, .slice (some ⟨w.heap.size, 0, none⟩) 0 0, 0, [])] := by
  refine ⟨fun i r hr => ?_, fun i j r s b hr hs _ _ => ?_⟩
  · cases i with
    | zero =>
      simp at hr; subst hr
      exact ⟨by simp, .inr ⟨w.heap.size, 0, #[], rfl, hb, Blk.new w #[] e, Nat.le_refl _, by simp, by simp, by simp⟩⟩
    | succ i => simp at hr
  · have := (List.getElem?_eq_some_iff.1 hr).1
    have := (List.getElem?_eq_some_iff.1 hs).1
    simp at *
    omega
end Go.Proofs.YtdcinifcpaldiaaDoor
