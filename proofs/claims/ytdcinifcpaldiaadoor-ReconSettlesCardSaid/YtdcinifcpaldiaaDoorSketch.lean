/- sketch.Floor, bit.Trail, and the document's. sketch.gather, sketch.Make. sketch.Make, and the document's; a sketch as it is read. The document's Make of a sketch. sketch.Cells, the document's Same and Right, the writer; both Encode of a sketch. The writer: New, put, Num, Bytes, Out. Right; both Encode of a sketch. sketch.Guess. What is guessed of few numbers; chapter 25's example. No statement is proved here. -/
import Derived.Test.YtdcinifcpaldiaaDoorCell
import Derived.Shelf.Spec.TrailingZeros
import Derived.Test.YtdcinifcpaldiaaDoorMakes
import Derived.Laws.Tables
import Derived.Laws.Rows
import Derived.Deep.MidRow
import Derived.Test.YtdcinifcpaldiaaDoorRmake
import Derived.Test.YtdcinifcpaldiaaDoorEncK
import Derived.Test.YtdcinifcpaldiaaDoorPack
import Derived.Test.YtdcinifcpaldiaaDoorBunUp
import Derived.Test.YtdcinifcpaldiaaDoorTellsLaw
import Derived.Test.YtdcinifcpaldiaaDoorPeels

namespace Go.Proofs.YtdcinifcpaldiaaDoor
open Go.RowKit

/-- The library's table lies in its variable. -/
def Tab (w : World) : Prop := TabAt 0 Lib.deBruijn64tab w
theorem Tab.lt {w : World} (h : Tab w) : 0 < w.heap.size := by
  have h0 := h 0 (by decide)
  simp only [World.cell?] at h0
  rcases Nat.lt_or_ge 0 w.heap.size with hl | hl
  · exact hl
  · rw [Array.getElem?_eq_none hl] at h0
    simp at h0
theorem Tab.only {S : Nat → Prop} {w w' : World} (h : Tab w) (hO : Only S w w') (hs : ¬ S 0) : Tab w' := fun j hj => by
  rw [hO.cell (p := ⟨_, j, none⟩) h.lt hs]
  exact h j hj
theorem Tab.no {w w' : World} (h : Tab w) (hO : Only No w w') : Tab w' := h.only hO id
set_option maxHeartbeats 1000000 in
theorem tz_core (x k idx : Nat) (w : World) (hx0 : ((x : Int) == 0) = false)
    (key : IntKind.u64.wrap (bits BinOp.and IntKind.u64 (x : Int) (IntKind.u64.wrap (-(x : Int))) * 285870213051353865) / 288230376151711744 = (idx : Int))
    (hi : idx < 64) (hcell : w.cell? ⟨0, idx, none⟩ = some (.int .u8 (k : Int))) (hk : k < 64) :
    Calls Tryd.prog 68 #[.int .u64 (x : Int)] w fun e w' => e = .returned (.int .i64 (k : Int)) ∧ w = w' := by
  go_enter Tryd.func68, Tryd.ntmps68
  go_wp2_with (simp only [key])
  go_ret
  exact ⟨rfl, rfl⟩
theorem tz_zero (w : World) : Calls Tryd.prog 68 #[.int .u64 0] w fun e w' => e = .returned (.int .i64 64) ∧ w = w' := by
  go_enter Tryd.func68, Tryd.ntmps68
  go_wp2
  go_ret
  exact ⟨rfl, rfl⟩
theorem tz_c (x : Nat) (hx : W64 x) (w : World) (hT : Tab w) : Calls Tryd.prog 68 #[.int .u64 (x : Int)] w fun e w' => e = .returned (.int .i64 (Lib.ctz 64 x : Nat)) ∧ w = w' := by
  by_cases hx0 : x = 0
  · subst hx0
    exact tz_zero w
  · obtain ⟨hlow, hk⟩ := Lib.lowest_bit 64 x hx0 hx
    obtain ⟨hi, htab⟩ := Lib.deBruijn64_at _ hk
    have hcell := hT _ hi
    rw [htab] at hcell
    exact tz_core x _ _ w (by simp; omega) (tz64_key x _ hx hx0 hlow) hi hcell hk
theorem Trail_c (x : Nat) (hx : W64 x) (w : World) (hT : Tab w) : Calls Tryd.prog 31 #[.int .u64 (x : Int)] w fun e w' => e = .returned (.int .i64 (Lib.ctz 64 x : Nat)) ∧ w = w' := by
  have H := Lib.hid (tz_c x hx w hT)
  clear hT
  go_enter Tryd.func31, Tryd.ntmps31
  go_wp2_with (go_at_call 68; refine H.out.mono ?_; rintro e w' ⟨rfl, rfl⟩)
  go_ret
  exact ⟨rfl, rfl⟩
/-- The floor of a number. -/
def floorN (x : Nat) : Nat := min (Lib.ctz 64 (wordN 5 x)) 15
theorem floor_lt (x : Nat) : floorN x < 16 := by unfold floorN; omega
theorem floor_min (x : Nat) : min ((Lib.ctz 64 (wordN 5 x) : Nat) : Int) 15 = ((floorN x : Nat) : Int) := by unfold floorN; omega
theorem Floor_c (x : Nat) (w : World) (hx : W64 x) (hT : Tab w) : Calls Tryd.prog 7 #[.int .u64 (x : Int)] w fun e w' => e = .returned (.int .i64 (floorN x : Nat)) ∧ Only No w w' := by
  have H1 := Lib.hid (Word_c 5 x w (by unfold W64; omega) hx)
  have H2 := Lib.hid (fun (W : World) (h : Only No w W) => Trail_c (wordN 5 x) (w64_word 5 x) W (hT.no h))
  have hm := floor_min x
  clear hT
  generalize floorN x = r at *
  generalize Lib.ctz 64 (wordN 5 x) = c at *
  generalize wordN 5 x = y at *
  go_enter Tryd.func7, Tryd.ntmps7
  go_wp2_with (first
    | (go_at_call 32; refine H1.out.mono ?_; rintro e w1 ⟨rfl, hO⟩)
    | (go_at_call 31; refine (H2.out _ hO).mono ?_; rintro e w2 ⟨rfl, rfl⟩))
  go_ret
  exact ⟨rfl, hO⟩
theorem ctz_facts (x : Nat) (hx : W64 x) : Lib.ctz 64 x ≤ 64 ∧ (∀ n, n < Lib.ctz 64 x → x / 2 ^ n % 2 = 0) ∧ (Lib.ctz 64 x < 64 → x / 2 ^ Lib.ctz 64 x % 2 = 1) := by
  by_cases h0 : x = 0
  · subst h0
    exact ⟨by decide, fun n _ => by simp, fun h => by simp [Lib.ctz] at h⟩
  · obtain ⟨m, hm, hk⟩ := Lib.ctzFrom_spec 64 x (by omega) hx
    have e : Lib.ctz 64 x = Lib.ctzFrom 64 x := by simp [Lib.ctz, h0]
    rw [e]
    generalize Lib.ctzFrom 64 x = k at *
    refine ⟨by omega, fun n hn => ?_, fun _ => ?_⟩
    · have e2 : 2 ^ k = 2 ^ n * (2 * 2 ^ (k - n - 1)) := by
        rw [← Nat.pow_succ', ← Nat.pow_add]; congr 1; omega
      rw [hm, e2, Nat.mul_assoc, Nat.mul_div_cancel_left _ (Nat.two_pow_pos n), Nat.mul_assoc]
      omega
    · conv => lhs; rw [hm]
      rw [Nat.mul_div_cancel_left _ (Nat.two_pow_pos k)]
      omega
theorem rTrail_c (x : Nat) (hx : W64 x) (w : World) : Calls Tryd.prog 33 #[.int .u64 (x : Int)] w fun e w' => e = .returned (.int .i64 (Lib.ctz 64 x : Nat)) ∧ w = w' := by
  obtain ⟨h1, h2, h3⟩ := ctz_facts x hx
  generalize Lib.ctz 64 x = t at *
  have H2 := Lib.hid h2
  have H3 := Lib.hid h3
  clear h2 h3
  go_enter Tryd.func33, Tryd.ntmps33
  go_wp2
  go_loop [3] (fun v3 => ∃ n : Nat, n ≤ t ∧ v3 = .int .i64 n) (fun v3 => 64 - (intOf v3).toNat)
  case atStart => exact ⟨0, by omega, rfl⟩
  case round =>
    obtain ⟨n, hn, rfl⟩ := hrel
    by_cases hlt : n < t
    · have hb := H2.out n hlt
      have HB := Bit_c x n w hx (by omega)
      rw [hb] at HB
      have HB' := Lib.hid HB
      have h64 : n < 64 := by omega
      clear hb HB
      go_wp2_with (go_at_call 69; refine HB'.out.mono ?_; rintro e w' ⟨rfl, rfl⟩)
      go_round
      case rel => exact ⟨n + 1, by omega, by go_num⟩
      case measure => simp [intOf]; omega
    · obtain rfl : n = t := by omega
      by_cases h64 : n < 64
      · have hb := H3.out h64
        have HB := Bit_c x n w hx (by omega)
        rw [hb] at HB
        have HB' := Lib.hid HB
        clear hb HB
        go_wp2_with (go_at_call 69; refine HB'.out.mono ?_; rintro e w' ⟨rfl, rfl⟩)
        go_ret
        exact ⟨rfl, rfl⟩
      · go_wp2
        go_ret
        exact ⟨rfl, rfl⟩
theorem rFloor_c (x : Nat) (w : World) (hx : W64 x) : Calls Tryd.prog 8 #[.int .u64 (x : Int)] w fun e w' => e = .returned (.int .i64 (floorN x : Nat)) ∧ w = w' := by
  have H1 := Lib.hid (rWord_c 5 x w (by unfold W64; omega) hx)
  have H2 := Lib.hid (rTrail_c (wordN 5 x) (w64_word 5 x) w)
  have hm := floor_min x
  generalize floorN x = r at *
  generalize Lib.ctz 64 (wordN 5 x) = c at *
  generalize wordN 5 x = y at *
  go_enter Tryd.func8, Tryd.ntmps8
  go_wp2_with (first
    | (go_at_call 34; refine H1.out.mono ?_; rintro e w1 ⟨rfl, rfl⟩)
    | (go_at_call 33; refine H2.out.mono ?_; rintro e w2 ⟨rfl, rfl⟩))
  go_ret
  exact ⟨rfl, rfl⟩
end Go.Proofs.YtdcinifcpaldiaaDoor

namespace Go.Proofs.YtdcinifcpaldiaaDoor
open Go.RowKit

/-- The numbers of a floor. -/
def onF (f : Nat) (l : List Nat) : List Nat := l.filter fun x => floorN x == f
def rowsF (l : List Nat) : List (List Nat) := (List.range 16).map fun f => onF f l
@[simp] theorem rowsF_len (l : List Nat) : (rowsF l).length = 16 := by simp [rowsF]
theorem rowsF_get (l : List Nat) {f : Nat} (h : f < 16) : (rowsF l)[f]? = some (onF f l) := by simp [rowsF, h]
theorem onF_sub (f : Nat) (l : List Nat) : ∀ x ∈ onF f l, x ∈ l := fun _ h => (List.mem_filter.1 h).1
theorem onF_len (f : Nat) (l : List Nat) : (onF f l).length ≤ l.length := List.length_filter_le _ _
theorem onF_snoc (f : Nat) (l : List Nat) (x : Nat) : onF f (l ++ [x]) = if floorN x = f then onF f l ++ [x] else onF f l := by
  unfold onF
  rw [List.filter_append]
  by_cases h : floorN x = f
  · rw [if_pos h, List.filter_cons_of_pos (by simpa using h), List.filter_nil]
  · rw [if_neg h, List.filter_cons_of_neg (by simpa using h), List.filter_nil, List.append_nil]
theorem rowsF_snoc (l : List Nat) (x : Nat) : rowsF (l ++ [x]) = (rowsF l).set (floorN x) (onF (floorN x) l ++ [x]) := by
  apply List.ext_getElem?
  intro i
  have hf := floor_lt x
  rw [List.getElem?_set]
  by_cases hi : i < 16
  · rw [rowsF_get _ hi, onF_snoc]
    by_cases h : floorN x = i
    · rw [if_pos h, if_pos h, if_pos (by simp; omega), ← h]
    · rw [if_neg h, if_neg h, rowsF_get _ hi]
  · rw [List.getElem?_eq_none (by simp; omega), if_neg (by omega), List.getElem?_eq_none (by simp; omega)]
theorem rowsF_nil : rowsF [] = List.replicate 16 [] := by decide
/-- Own lists of numbers, one a value. -/
def gRows (vs : List Value) (ls : List (List Nat)) : List RowD := List.zipWith (fun v l => (25, 1, v, l.length, u64s l)) vs ls
theorem gRows_get {vs : List Value} {ls : List (List Nat)} {i : Nat} {v : Value} {l : List Nat} (hv : vs[i]? = some v) (hl : ls[i]? = some l) : (gRows vs ls)[i]? = some (25, 1, v, l.length, u64s l) := by
  simp [gRows, List.getElem?_zipWith, hv, hl]
theorem gRows_set (vs : List Value) (ls : List (List Nat)) (i : Nat) (v : Value) (l : List Nat) : (gRows vs ls).set i (25, 1, v, l.length, u64s l) = gRows (vs.set i v) (ls.set i l) := by
  apply List.ext_getElem?
  intro j
  unfold gRows
  simp only [List.getElem?_set, List.getElem?_zipWith, List.length_zipWith]
  by_cases h : i = j
  · subst h
    by_cases h1 : i < vs.length <;> by_cases h2 : i < ls.length <;> simp [h1, h2] <;> omega
  · simp [h]
theorem bun_nils (w : World) (base n e size : Nat) : Bun w base (List.replicate n (e, size, .slice none 0 0, 0, [])) := by
  induction n with
  | zero => exact Bun.nil _ _
  | succ n ih => rw [List.replicate_succ]; exact ih.cons_nil e size
theorem und_rows : Tryd.prog.underlying 66 = some (.array 16 22) := by kernel_rfl
theorem len_rows : Tryd.prog.arrayLen 66 = 16 := by kernel_rfl
theorem elem_rows : Tryd.prog.elem 66 = 22 := by kernel_rfl
theorem size_row : ∀ w, (sizeOf 22).run Tryd.prog w = .ok 1 w := fun _ => by kernel_rfl
theorem at_rows (b0 f : Nat) (hf : f < 16) (w : World) : (Instr.indexAt 66 (.pointer (some ⟨b0, 0, none⟩)) (.int .i64 (f : Int))).run Tryd.prog w = .ok (.pointer (some ⟨b0, f, none⟩)) w := by
  rw [run_indexAt_array (P := Tryd.prog) (w := w) 66 ⟨b0, 0, none⟩ .i64 (f : Int) (by rw [len_rows, elem_rows]; exact und_rows), len_rows, if_pos (by omega), elem_rows, size_row]
  simp only [Result.andThen_ok, Int.toNat_natCast, Nat.mul_one]
  rw [add_none rfl, Nat.zero_add]
set_option maxRecDepth 100000 in
set_option maxHeartbeats 1000000 in
theorem gput_c (b0 base : Nat) (vs : List Value) (ls : List (List Nat)) (x : Nat) (w : World) (hT : Tab w) (hx : W64 x) (hvs : vs.length = 16) (hls : ls.length = 16) (hB : Blk w b0 vs.toArray 66) (hb : Bun w base (gRows vs ls)) (hb0 : b0 < base) (hll : ∀ l ∈ ls, l.length ≤ 1000) (hbase : base ≤ w.heap.size) :
    Calls Tryd.prog 80 #[.int .u64 (x : Int), .pointer (some ⟨b0, 0, none⟩)] w fun e w' => e = .returned (.tuple #[]) ∧
      ∃ v', Blk w' b0 (vs.set (floorN x) v').toArray 66 ∧ Bun w' base (gRows (vs.set (floorN x) v') (ls.set (floorN x) (ls.getD (floorN x) [] ++ [x]))) ∧ Only (fun k => k = b0 ∨ base ≤ k) w w' := by
  obtain ⟨i0, hinf, hz0, hz1, hz2⟩ := info_parts info_u64
  have hf := floor_lt x
  have H1 := Lib.hid (Floor_c x w hx hT)
  clear hT
  generalize floorN x = f at *
  obtain ⟨l, hl⟩ : ∃ l, ls[f]? = some l := ⟨_, List.getElem?_eq_getElem (by omega)⟩
  obtain ⟨v, hv⟩ : ∃ v, vs[f]? = some v := ⟨_, List.getElem?_eq_getElem (by omega)⟩
  have hlm := hll l (List.mem_of_getElem? hl)
  have hgd : ls.getD f [] = l := by rw [List.getD_eq_getElem?_getD, hl]; rfl
  rw [hgd]
  have hrow := gRows_get hv hl
  obtain ⟨a, c, rfl⟩ := bun_is hb f hrow
  have hset : ∀ v', (gRows vs ls).set f (25, 1, v', l.length + 1, u64s l ++ [.int .u64 (x : Int)]) = gRows (vs.set f v') (ls.set f (l ++ [x])) := by
    intro v'
    rw [← gRows_set]
    simp [u64s]
  have HS := Lib.hid (And.intro hset (And.intro hrow hv))
  have HBK := Lib.hid hB
  have HBU := Lib.hid hb
  clear hset hrow hll hgd hl hv hB hb hls
  have hlt := HBK.out.lt
  have hia := at_rows b0 f hf
  go_enter Tryd.func80, Tryd.ntmps80
  go_wp2_with (first
    | (go_at_call 7; refine H1.out.mono ?_; rintro e w1 ⟨rfl, hO⟩; have hB1 := hO.blk HBK.out id; have k1 := hB1.cell f _ (by simpa using HS.out.2.2); have f1 := hB1.free f; have hBu1 := HBU.out.only hO (fun _ _ h => h); have hz1' := hO.size; have HB1 := Lib.hid hB1; have HBu1 := Lib.hid hBu1; clear hB1 hBu1)
    | (at_builtin; refine wpList_append1 rfl (.tmp 9) (.tmp 11) 22 rfl base 25 i0 (.int .u64 0) 1 8 Tryd.underlying22 hinf hz0 hz1 hz2 rfl (by decide) _ HBu1.out f _ _ _ HS.out.2.1 rfl [.int .u64 (x : Int)] _ _ rfl rfl rfl (by simp [Value.oneCell']) (by unfold maxLen; omega) (by omega) (by omega) ?_; intro g c2 w2 hBB hOB; have hB2 := hOB.blk HB1.out (by show ¬ base ≤ b0; omega); have f2 := hB2.free f; have k2 := hB2.cell f _ (by simpa using HS.out.2.2); have HBB := Lib.hid hBB; have HB2 := Lib.hid hB2; clear hBB hB2))
  go_end0
  refine ⟨rfl, .slice (some ⟨g, 0, none⟩) (l.length + 1) c2, ?_, ?_, ?_⟩
  · have := HB2.out.set f (.slice (some ⟨g, 0, none⟩) (l.length + 1) c2)
    simpa using this
  · rw [← HS.out.1]
    refine HBB.out.only (S := fun k => k = b0) ((Only.refl _ _).set1 _ _) (fun k hk e => by omega)
  · refine ((hO.of_no).trans (hOB.mono (fun k _ hk => Or.inr hk))).setCell _ _ (fun _ => Or.inl rfl)
theorem Blk.setRow {w : World} {g : Nat} {old : Array Value} {t : TypeId} (h : Blk w g old t) (cs : Array Value) : Blk (w.setRow g cs) g cs t := setRow_heap w g old cs t (0, 0) h
theorem Only.setRow {S : Nat → Prop} {a w : World} (h : Only S a w) (g : Nat) (cs : Array Value) (hg : g < a.heap.size → S g) : Only S a (w.setRow g cs) :=
  h.then (T := (· = g)) ⟨rfl, rfl, rfl, by simp, fun k _ hk => setRow_other w g k _ hk⟩ (fun i hi e => by have e' : i = g := e; subst e'; exact hg hi)
theorem size_rows : (Tryd.prog.info? 66).map (·.size) = some 16 := by kernel_rfl
set_option maxRecDepth 100000 in
set_option maxHeartbeats 1000000 in
theorem gather_c (v : Value) (l : List Nat) (w : World) (hT : Tab w) (hR : Rd w v (u64s l)) (hl : l.length ≤ 1000) (hx : ∀ x ∈ l, W64 x) :
    Calls Tryd.prog 42 #[v] w fun e w' => ∃ vs : List Value, e = .returned (.agg vs.toArray) ∧ vs.length = 16 ∧ (∀ (i : Nat) (u : Value), vs[i]? = some u → Rd w' u (u64s (onF i l)) ∧ ∀ b, u.ownBlock = some b → w.heap.size < b) ∧ Only No w w' := by
  have hg0 := hT.lt
  have HG := Lib.hid (fun (vs : List Value) (m : List Nat) (x : Nat) (W : World) (hO : Only (fun k => w.heap.size ≤ k) w W) h1 h2 h3 h4 (h5 : m.length ≤ 1000) h6 => gput_c w.heap.size (w.heap.size + 1) vs (rowsF m) x W (hT.only hO (by show ¬ w.heap.size ≤ _; omega)) h1 h2 (rowsF_len m) h3 h4 (by omega)
    (by intro q hq; obtain ⟨f, -, rfl⟩ := List.mem_map.1 hq; exact Nat.le_trans (onF_len f m) h5) h6)
  have ent := enters_of Tryd.func80 (by kernel_rfl) rfl
  obtain ⟨a, c, rfl, -⟩ := hR.cases
  rw [u64s_len] at *
  clear hT
  go_enter Tryd.func42, Tryd.ntmps42
  go_wp2
  generalize hW : w.alloc _ = W1
  have hB1 : Blk W1 w.heap.size (List.replicate 16 (Value.slice none 0 0)).toArray 66 := by rw [← hW]; exact Blk.new w _ _
  have hO1 : Only No w W1 := by rw [← hW]; exact (Only.refl _ _).alloc _
  have hz1 : W1.heap.size = w.heap.size + 1 := by rw [← hW]; simp
  clear hW
  go_loopw [9] (fun v9 wr => ∃ (i : Nat) (vs : List Value), i ≤ l.length ∧ v9 = .int .i64 i ∧ vs.length = 16 ∧ Blk wr w.heap.size vs.toArray 66 ∧ Bun wr (w.heap.size + 1) (gRows vs (rowsF (l.take i))) ∧ Only (fun k => w.heap.size ≤ k) W1 wr ∧ w.heap.size + 1 ≤ wr.heap.size) (fun v9 _ => l.length - (intOf v9).toNat)
  case atStart => exact ⟨0, _, by omega, rfl, by simp, hB1, by rw [List.take_zero, rowsF_nil]; exact bun_nils W1 _ 16 25 1, Only.refl _ _, by omega⟩
  case round =>
    obtain ⟨i, vs, hi, rfl, hvs, hB, hBu, hO, hz⟩ := hrel
    have hOw : Only (fun k => w.heap.size ≤ k) w wr := hO1.of_no.trans hO
    by_cases hlt : i < l.length
    · obtain ⟨-, b, off, rfl, hbl, hcell⟩ := hR.at (by rw [u64s_len]; omega)
      have hc2 := (hOw.cell (p := ⟨b, off + i, none⟩) hbl (by show ¬ w.heap.size ≤ b; omega)).trans (hcell i _ (u64s_get hlt))
      have hxx := hx l[i] (List.getElem_mem hlt)
      have hts : rowsF (l.take (i + 1)) = (rowsF (l.take i)).set (floorN l[i]) (onF (floorN l[i]) (l.take i) ++ [l[i]]) := by
        rw [List.take_succ_eq_append_getElem hlt, rowsF_snoc]
      have hgd : (rowsF (l.take i)).getD (floorN l[i]) [] = onF (floorN l[i]) (l.take i) := by rw [List.getD_eq_getElem?_getD, rowsF_get _ (floor_lt _)]; rfl
      have HC := HG.out vs (l.take i) l[i] wr hOw hxx hvs hB hBu (by rw [List.length_take]; omega) hz
      rw [hgd, ← hts] at HC
      have HC' := Lib.hid HC
      have HV := Lib.hid hvs
      have HO := Lib.hid (And.intro hO hOw)
      clear hcell hts hgd HC hB hBu hvs hO hOw
      generalize l[i] = x at *
      go_wp2_with (refine HC'.out.mono ?_; rintro e w2 ⟨rfl, v', hB', hBu', hO'⟩)
      go_roundw
      case rel => exact ⟨i + 1, _, by omega, by go_num, by rw [List.length_set]; exact HV.out, hB', hBu', HO.out.1.trans (hO'.mono (fun k _ hk => by omega)), Nat.le_trans hz hO'.size⟩
      case measure => simp [intOf]; omega
    · obtain rfl : i = l.length := by omega
      rw [List.take_length] at hBu
      have hone : ∀ v ∈ vs, v.oneCell' = true := by
        intro v hv
        obtain ⟨j, hj, rfl⟩ := List.mem_iff_getElem.1 hv
        obtain ⟨a', c', e'⟩ := bun_is hBu j (gRows_get (List.getElem?_eq_getElem hj) (rowsF_get l (by omega)))
        rw [e']; rfl
      have hi16 : (Tryd.prog.info? 66).map (·.size) = some vs.toArray.size := by rw [List.size_toArray, hvs]; exact size_rows
      have hRd : ∀ (i : Nat) (u : Value), vs[i]? = some u → Rd wr u (u64s (onF i l)) := fun i u hu => Rd.of_row (hBu.owns i _ (gRows_get hu (rowsF_get l (by have := (List.getElem?_eq_some_iff.1 hu).1; omega))))
      have hne : ∀ (i : Nat) (u : Value), vs[i]? = some u → ∀ b, u.ownBlock = some b → w.heap.size < b := fun i u hu b hb => by have := ((hBu.owns i _ (gRows_get hu (rowsF_get l (by have := (List.getElem?_eq_some_iff.1 hu).1; omega)))).lt hb).1; omega
      have HA := Lib.hid (And.intro hone (And.intro hi16 (And.intro hRd (And.intro hne (And.intro hvs (And.intro hB hOw))))))
      clear hone hi16 hRd hne hvs hB hOw hBu
      go_wp2_with (first
        | (refine wpList_load_row rfl 66 (.tmp 2) rfl w.heap.size rfl _ vs.toArray (0, 0) _ HA.out.2.2.2.2.2.1 und_rows rfl HA.out.2.1 ?_)
        | (refine wpList_store_row rfl 66 (.tmp 2) (.tmp 17) rfl w.heap.size vs.toArray rfl rfl _ _ HA.out.2.2.2.2.2.1 HA.out.2.1 rfl (all_oneCell_toArray HA.out.1) ?_))
      have hB9 := HA.out.2.2.2.2.2.1.setRow vs.toArray
      refine bodyPost_ret (results_cell_row rfl _ _ w.heap.size _ _ _ _ rfl hB9 und_rows rfl HA.out.2.1) rfl ?_
      refine ⟨vs, rfl, HA.out.2.2.2.2.1, fun i u hu => ?_, ?_⟩
      · exact ⟨(HA.out.2.2.1 i u hu).only (S := (· = w.heap.size)) ((Only.refl _ _).setRow _ _ (fun _ => rfl)) (fun b hb _ e => by have := HA.out.2.2.2.1 i u hu b hb; have e' : b = w.heap.size := e; omega), HA.out.2.2.2.1 i u hu⟩
      · exact (HA.out.2.2.2.2.2.2.setRow _ _ (fun h => Nat.le_refl _)).mono (fun k hk h => by omega)
end Go.Proofs.YtdcinifcpaldiaaDoor

namespace Go.Proofs.YtdcinifcpaldiaaDoor
open Go.RowKit

theorem agg_row : ∀ w, (isAgg 22).run Tryd.prog w = .ok false w := fun _ => by kernel_rfl
theorem get_rows (cs : Array Value) (i : Nat) (hi : i < 16) (u : Value) (hu : cs[i]? = some u) (w : World) : (Instr.index 66 (.agg cs) (.int .i64 (i : Int))).run Tryd.prog w = .ok u w := by
  have h2 : (0 : Int) ≤ (i : Int) ∧ (i : Int) < ((16 : Nat) : Int) := by omega
  simp [Instr.index, run_underlying und_rows, asIntOf, h2, size_row, part, agg_row, hu, hi]
/-- The value v is a slice of tables of cells, which read as L. -/
def Sk (w : World) (v : Value) (L : List (List Cell)) : Prop := ∃ vs : List Value, vs.length = L.length ∧ Rd w v vs ∧ ∀ (i : Nat) (u : Value) (M : List Cell), vs[i]? = some u → L[i]? = some M → RdN 3 w u M.length (fl encC M)
theorem Sk.no {w w' : World} {v : Value} {L : List (List Cell)} (h : Sk w v L) (hO : Only No w w') : Sk w' v L := by
  obtain ⟨vs, h1, h2, h3⟩ := h
  exact ⟨vs, h1, h2.no hO, fun i u M hu hM => (h3 i u M hu hM).no hO⟩
theorem Sk.cases {w : World} {v : Value} {L : List (List Cell)} (h : Sk w v L) : ∃ (a : Option Addr) (cap : Nat), v = .slice a L.length cap ∧ L.length ≤ cap := by
  obtain ⟨vs, h1, h2, -⟩ := h
  obtain ⟨a, cap, h3, h4⟩ := h2.cases
  exact ⟨a, cap, by rw [← h1]; exact h3, by omega⟩
/-- The i-th table. -/
theorem Sk.at {w : World} {a : Option Addr} {n cap : Nat} {L : List (List Cell)} (h : Sk w (.slice a n cap) L) {i : Nat} (hi : i < L.length) : n = L.length ∧ ∃ b off a' c', a = some ⟨b, off, none⟩ ∧ b < w.heap.size ∧ w.cell? ⟨b, off + i, none⟩ = some (.slice a' L[i].length c') ∧ RdN 3 w (.slice a' L[i].length c') L[i].length (fl encC L[i]) := by
  obtain ⟨vs, h1, h2, h3⟩ := h
  obtain ⟨hn, b, off, ha, hb, hc⟩ := h2.at (by omega)
  have hv : vs[i]? = some (vs[i]'(by omega)) := List.getElem?_eq_getElem _
  have hr := h3 i _ _ hv (List.getElem?_eq_getElem hi)
  obtain ⟨a', c', e, -⟩ := hr.cases
  rw [e] at hv hr
  exact ⟨by omega, b, off, a', c', ha, hb, hc i _ hv, hr⟩
def skL (l : List Nat) : List (List Cell) := (List.range 16).map fun f => makeC 12 (onF f l)
@[simp] theorem skL_len (l : List Nat) : (skL l).length = 16 := by simp [skL]
theorem skL_get (l : List Nat) {f : Nat} (h : f < 16) : (skL l)[f]? = some (makeC 12 (onF f l)) := by simp [skL, h]
theorem make12_c (v : Value) (l : List Nat) (w : World) (hR : Rd w v (u64s l)) (hl : l.length ≤ 1000000) (hx : ∀ x ∈ l, W64 x) :
    Calls Tryd.prog 43 #[.int .i64 12, v] w fun e w' => ∃ u, e = .returned (.tuple #[u, .int .i64 0]) ∧ w'.ownsRow w.heap.size 81 3 u 12 (fl encC (makeC 12 l)) ∧ Only No w w' :=
  Make_c 4 v l w (by omega) (by omega) hR hl hx
theorem rmake12_c (v : Value) (l : List Nat) (w : World) (hR : Rd w v (u64s l)) (hl : l.length ≤ 1000000) (hx : ∀ x ∈ l, W64 x) :
    Calls Tryd.prog 22 #[.int .i64 12, v] w fun e w' => ∃ u, e = .returned (.tuple #[u, .int .i64 0]) ∧ w'.ownsRow w.heap.size 81 3 u 12 (fl encC (makeC 12 l)) ∧ Only No w w' :=
  rMake_c 4 v l w (by omega) (by omega) hR hl hx
theorem info_cells : (Tryd.prog.info? 42).map (fun i => (i.zero, i.size, i.bytes)) = some (some (.slice none 0 0), 1, 24) := by kernel_rfl
theorem make_sk (W : World) : (Instr.makeSlice 26 (.int .i64 16) (.int .i64 16)).run Tryd.prog W =
    .ok (.slice (some ⟨W.heap.size, 0, none⟩) 16 16) (W.alloc (.cells (List.replicate 16 (Value.slice none 0 0)).toArray 42)) := by
  obtain ⟨i0, hi, hz0, hz1, hz2⟩ := info_parts info_cells
  have := run_make W 26 42 i0 _ Tryd.underlying26 hi hz0 .i64 .i64 16 16 (by omega) (by omega) (by rw [hz2]; omega) (by omega)
  rw [hz1] at this
  have hm := fl_made (enc := fun _ : Unit => [Value.slice none 0 0]) (z := ()) (zs := #[Value.slice none 0 0]) rfl 16 (by decide)
  have hr : fl (fun _ : Unit => [Value.slice none 0 0]) (List.replicate 16 ()) = List.replicate 16 (Value.slice none 0 0) := rfl
  rw [← hr, ← hm]
  exact this
set_option maxRecDepth 100000 in
set_option maxHeartbeats 1000000 in
theorem skMake_c (v : Value) (l : List Nat) (w : World) (hT : Tab w) (hR : Rd w v (u64s l)) (hl : l.length ≤ 1000) (hx : ∀ x ∈ l, W64 x) :
    Calls Tryd.prog 13 #[v] w fun e w' => ∃ u, e = .returned u ∧ Sk w' u (skL l) ∧ Only No w w' := by
  have HG := Lib.hid (fun (W : World) (h : Only No w W) => gather_c v l W (hT.no h) (hR.no h) hl hx)
  have HM := Lib.hid (fun (f : Nat) (v : Value) (W : World) (h : Rd W v (u64s (onF f l))) => make12_c v (onF f l) W h (Nat.le_trans (onF_len f l) (by omega)) (fun x hh => hx x (onF_sub f l x hh)))
  obtain ⟨a, c, rfl, -⟩ := hR.cases
  rw [u64s_len] at *
  clear hT hR
  have hmk := make_sk
  go_enter Tryd.func13, Tryd.ntmps13
  go_wp2_with (go_at_call 42; refine (HG.out _ ((Only.refl _ _).alloc _)).mono ?_; rintro e w1 ⟨vs, rfl, hvs, hrd, hO1⟩)
  have hB1 := hO1.blk (Blk.new w _ _) id
  have hO2 : Only No w w1 := ((Only.refl No w).alloc _).trans hO1
  have hcap : w.heap.size < w1.heap.size := hB1.lt
  have HX := Lib.hid (fun (i : Nat) (u : Value) (hi : i < 16) (hu : vs[i]? = some u) => get_rows vs.toArray i hi u (by simpa using hu))
  have HR := Lib.hid hrd
  clear hrd hx HG hO1
  go_wp2_with fail
  go_loopw [9] (fun v9 wr => ∃ (i : Nat) (us : List Value), i ≤ 16 ∧ v9 = .int .i64 i ∧ us.length = 16 ∧ Blk wr w.heap.size us.toArray 42 ∧ (∀ (j : Nat) (u : Value), j < i → us[j]? = some u → RdN 3 wr u 12 (fl encC (makeC 12 (onF j l))) ∧ u.ownBlock ≠ some w.heap.size) ∧ Only (· = w.heap.size) w1 wr) (fun v9 _ => 16 - (intOf v9).toNat)
  case atStart => exact ⟨0, _, by omega, rfl, by simp, hB1, fun j u hj _ => by omega, Only.refl _ _⟩
  case round =>
    obtain ⟨i, us, hi, rfl, hus, hB, hrow, hO⟩ := hrel
    by_cases hlt : i < 16
    · obtain ⟨u, hu⟩ : ∃ u, vs[i]? = some u := ⟨_, List.getElem?_eq_getElem (by omega)⟩
      have hix := HX.out i u hlt hu
      have hRu := HR.out i u hu
      obtain ⟨ua, uc, rfl, -⟩ := hRu.1.cases
      rw [u64s_len] at hix hRu
      have HMk := Lib.hid (fun (W : World) (h : Only (· = w.heap.size) w1 W) => HM.out i _ W (hRu.1.only h (fun b hb _ e => by have := hRu.2 b hb; have e' : b = w.heap.size := e; have hs : ∀ o, (w.alloc o).heap.size = w.heap.size + 1 := (by intro o; simp); rw [hs] at this; omega)))
      have HB := Lib.hid (And.intro hB (And.intro hrow (And.intro hO hus)))
      obtain ⟨uo, huo⟩ : ∃ uo, us[i]? = some uo := ⟨_, List.getElem?_eq_getElem (by omega)⟩
      have HUO := Lib.hid huo
      have HMw := Lib.hid (HMk.out wr hO)
      clear huo
      clear hB hrow hO hu hRu HMk
      go_wp2_with (go_at_call 43; refine HMw.out.mono ?_; rintro e w2 ⟨t, rfl, ht, hO2'⟩; obtain ⟨ta, tc, rfl, -⟩ := row_len ht; have hB2 := hO2'.blk HB.out.1 id; have f2 := hB2.free i; have k2 := hB2.cell i uo (by simpa using HUO.out); have HB2 := Lib.hid hB2; clear hB2)
      go_roundw
      case rel =>
        refine ⟨i + 1, us.set i (.slice ta 12 tc), by omega, by go_num, by rw [List.length_set]; exact HB.out.2.2.2, ?_, fun j u hj hu => ?_, (HB.out.2.2.1.trans hO2'.of_no).set1 _ _⟩
        · have := HB2.out.set i (.slice ta 12 tc)
          simpa using this
        · have hlt2 := HB2.out.lt
          have hz2 := HB.out.1.lt
          have hOs : Only (· = w.heap.size) w2 (w2.setCell ⟨w.heap.size, i, none⟩ (.slice ta 12 tc)) := (Only.refl _ _).set1 _ _
          rw [List.getElem?_set] at hu
          by_cases hij : i = j
          · subst hij
            rw [if_pos rfl, if_pos (by rw [HB.out.2.2.2]; exact hlt)] at hu
            injection hu with hu
            subst hu
            have hne : ∀ b, (Value.slice ta (3 * 4) tc).ownBlock = some b → b ≠ w.heap.size := fun b hb => by have := (ht.lt b hb).1; omega
            exact ⟨(RdN.of_row ht).only hOs (fun b hb _ e => hne b hb e), fun e => hne _ e rfl⟩
          · rw [if_neg hij] at hu
            have := HB.out.2.1 j u (by omega) hu
            exact ⟨(this.1.no hO2').only hOs (fun b hb _ e => this.2 (by rw [hb, show b = w.heap.size from e])), this.2⟩
      case measure => simp [intOf]; omega
    · obtain rfl : i = 16 := by omega
      go_wp2
      go_ret
      refine ⟨_, rfl, ⟨us, by rw [hus, skL_len], ?_, fun j u M hu hM => ?_⟩, hO2.then hO (fun i hi e => by omega)⟩
      · have := Rd.of_blk hB (cap := 16) (by omega)
        rw [hus] at this
        exact this
      · have hj : j < 16 := by have := (List.getElem?_eq_some_iff.1 hu).1; omega
        rw [skL_get l hj] at hM
        injection hM with hM
        subst hM
        rw [makeC_len]
        exact (hrow j u hj hu).1
end Go.Proofs.YtdcinifcpaldiaaDoor

namespace Go.Proofs.YtdcinifcpaldiaaDoor
open Go.RowKit

/-- One more own row, in new blocks. -/
theorem Bun.snoc_row {w w' : World} {base : Nat} {l : List RowD} (h : Bun w base l) (hO : Only No w w') (hb : base ≤ w.heap.size) (r : RowD) (hr : r.owns w' w.heap.size) : Bun w' base (l ++ [r]) := by
  have h' : Bun w' base l := h.only hO (fun _ _ h => h)
  have hlt : ∀ (i : Nat) (s : RowD) (b : Nat), l[i]? = some s → s.blk = some b → b < w.heap.size := fun i s b hs hb => ((h.owns i s hs).lt hb).2
  have hge : ∀ b, r.blk = some b → w.heap.size ≤ b := fun b hb => (hr.lt hb).1
  have hlast : ∀ (i : Nat) (s : RowD), (l ++ [r])[i]? = some s → (i < l.length ∧ l[i]? = some s) ∨ (i = l.length ∧ s = r) := by
    intro i s hs
    rcases Nat.lt_trichotomy i l.length with hi | hi | hi
    · rw [List.getElem?_append_left hi] at hs; exact .inl ⟨hi, hs⟩
    · rw [hi, List.getElem?_append_right (Nat.le_refl _), Nat.sub_self] at hs
      simp at hs
      exact .inr ⟨hi, hs.symm⟩
    · rw [List.getElem?_eq_none (by simp; omega)] at hs
      cases hs
  refine ⟨fun i s hs => ?_, fun i j s t b hs ht hsb htb => ?_⟩
  · rcases hlast i s hs with ⟨-, hs⟩ | ⟨-, rfl⟩
    · exact h'.owns i s hs
    · exact row_lower hr hb
  · rcases hlast i s hs with ⟨hi, hs⟩ | ⟨hi, rfl⟩
    · rcases hlast j t ht with ⟨hj, ht⟩ | ⟨hj, e⟩
      · exact h.apart i j s t b hs ht hsb htb
      · rw [e] at htb; have := hlt i s b hs hsb; have := hge b htb; omega
    · rcases hlast j t ht with ⟨hj, ht⟩ | ⟨hj, e⟩
      · have := hlt j t b ht htb; have := hge b hsb; omega
      · omega
def cRows (us : List Value) (Ls : List (List Cell)) : List RowD := List.zipWith (fun u L => (81, 3, u, L.length, fl encC L)) us Ls
theorem cRows_get {us : List Value} {Ls : List (List Cell)} {i : Nat} {u : Value} {L : List Cell} (hv : us[i]? = some u) (hl : Ls[i]? = some L) : (cRows us Ls)[i]? = some (81, 3, u, L.length, fl encC L) := by
  simp [cRows, List.getElem?_zipWith, hv, hl]
theorem cRows_snoc {us : List Value} {Ls : List (List Cell)} (h : us.length = Ls.length) (u : Value) (L : List Cell) : cRows (us ++ [u]) (Ls ++ [L]) = cRows us Ls ++ [(81, 3, u, L.length, fl encC L)] := by
  unfold cRows
  rw [List.zipWith_append h]
  rfl
theorem Sk.of_bun {w : World} {base n : Nat} {v : Value} {us : List Value} {Ls : List (List Cell)} {e : TypeId} (h : Bun w base ((e, 1, v, n, us) :: cRows us Ls)) (hl : us.length = Ls.length) : Sk w v Ls :=
  ⟨us, hl, Rd.of_row (h.owns 0 _ rfl), fun i u M hu hM => RdN.of_row (show w.ownsRow base 81 3 u M.length (fl encC M) from h.owns (i + 1) (81, 3, u, M.length, fl encC M) (by rw [List.getElem?_cons_succ]; exact cRows_get hu hM))⟩
set_option maxRecDepth 100000 in
set_option maxHeartbeats 2000000 in
theorem rskMake_c (v : Value) (l : List Nat) (w : World) (hR : Rd w v (u64s l)) (hl : l.length ≤ 1000) (hx : ∀ x ∈ l, W64 x) :
    Calls Tryd.prog 9 #[v] w fun e w' => ∃ u, e = .returned u ∧ Sk w' u (skL l) ∧ Only No w w' := by
  obtain ⟨i0, hinf, hz0, hz1, hz2⟩ := info_parts info_u64
  obtain ⟨j0, jinf, jz0, jz1, jz2⟩ := info_parts info_cells
  have HM := Lib.hid (fun (f : Nat) (v : Value) (W : World) (h : Rd W v (u64s (onF f l))) => rmake12_c v (onF f l) W h (Nat.le_trans (onF_len f l) (by omega)) (fun x hh => hx x (onF_sub f l x hh)))
  have HX := Lib.hid hx
  obtain ⟨a, c, rfl, -⟩ := hR.cases
  rw [u64s_len] at *
  clear hx
  go_enter Tryd.func9, Tryd.ntmps9
  go_wp2
  go_loopw [3, 4] (fun v3 v4 wr => ∃ (f : Nat) (us : List Value), f ≤ 16 ∧ v4 = .int .i64 f ∧ us.length = f ∧ Bun wr w.heap.size ((42, 1, v3, f, us) :: cRows us ((skL l).take f)) ∧ Only (fun k => w.heap.size ≤ k) w wr) (fun _ v4 _ => 16 - (intOf v4).toNat)
  case atStart => exact ⟨0, [], by omega, rfl, rfl, by simpa [cRows] using (Bun.nil w w.heap.size).cons_nil 42 1, Only.refl _ _⟩
  case round =>
    obtain ⟨f, us, hf, rfl, hus, hB, hO⟩ := hrel
    obtain ⟨a3, c3, rfl⟩ := bun_is hB 0 rfl
    by_cases hlt : f < 16
    · have hz := hO.size
      obtain ⟨wo, rfl⟩ : ∃ wo : World, wo = wr := ⟨_, rfl⟩
      have HB := Lib.hid (And.intro hB hO)
      have hdf : decide ((f : Int) < 16) = true := by simp; omega
      clear hB
      go_wp2
      go_loopw [5, 6] (fun v5 v6 wr => ∃ i : Nat, i ≤ l.length ∧ v6 = .int .i64 i ∧ Bun wr wo.heap.size [(25, 1, v5, (onF f (l.take i)).length, u64s (onF f (l.take i)))] ∧ Only (fun k => wo.heap.size ≤ k) wo wr) (fun _ v6 _ => l.length - (intOf v6).toNat)
      case atStart => exact ⟨0, by omega, rfl, (Bun.nil wo wo.heap.size).cons_nil 25 1, Only.refl _ _⟩
      case round =>
        obtain ⟨i, hi, rfl, hBi, hOi⟩ := hrel
        obtain ⟨a5, c5, rfl⟩ := bun_is hBi 0 rfl
        by_cases hlti : i < l.length
        · obtain ⟨-, b, off, rfl, hbl, hcell⟩ := hR.at (by rw [u64s_len]; omega)
          have hc2 := ((hOi.cell (p := ⟨b, off + i, none⟩) (by show b < _; omega) (by show ¬ wo.heap.size ≤ b; omega)).trans (hO.cell (p := ⟨b, off + i, none⟩) hbl (by show ¬ w.heap.size ≤ b; omega))).trans (hcell i _ (u64s_get hlti))
          have hsn := onF_snoc f (l.take i) l[i]
          rw [← List.take_succ_eq_append_getElem hlti] at hsn
          have HF := Lib.hid (rFloor_c l[i] wr (HX.out _ (List.getElem_mem hlti)))
          have hlen : (onF f (l.take i)).length ≤ i := Nat.le_trans (onF_len f _) (List.length_take_le _ _)
          generalize l[i] = x at *
          have hzi := hOi.size
          clear hcell
          by_cases hfx : floorN x = f
          · rw [if_pos hfx] at hsn
            have HS := Lib.hid hsn
            have hq : ((floorN x : Int) == (f : Int)) = true := by simp; omega
            clear hsn hfx
            generalize onF f (l.take i) = q at *
            generalize floorN x = y at *
            go_wp2_with (first
              | (go_at_call 8; refine HF.out.mono ?_; rintro e w' ⟨rfl, rfl⟩)
              | (at_builtin; refine wpList_append1 rfl (.tmp 26) (.tmp 31) 22 rfl wo.heap.size 25 i0 (.int .u64 0) 1 8 Tryd.underlying22 hinf hz0 hz1 hz2 rfl (by decide) _ hBi 0 _ _ _ rfl rfl [.int .u64 (x : Int)] _ _ rfl rfl rfl (by simp [Value.oneCell']) (by unfold maxLen; omega) (by omega) hzi ?_; intro g3 c4 w4 hBB hOB))
            go_roundw
            case rel =>
              refine ⟨i + 1, by omega, by go_num, ?_, hOi.trans hOB⟩
              rw [HS.out]
              simpa [List.set, u64s] using hBB
            case measure => simp [intOf]; omega
          · rw [if_neg hfx] at hsn
            have HS := Lib.hid hsn
            have hq : ((floorN x : Int) == (f : Int)) = false := by simp; omega
            clear hsn hfx
            generalize floorN x = y at *
            go_wp2_with (go_at_call 8; refine HF.out.mono ?_; rintro e w' ⟨rfl, rfl⟩)
            go_roundw
            case rel =>
              refine ⟨i + 1, by omega, by go_num, ?_, hOi⟩
              rw [HS.out]
              exact hBi
            case measure => simp [intOf]; omega
        · obtain rfl : i = l.length := by omega
          rw [List.take_length] at hBi
          have HMw := Lib.hid (HM.out f _ wr (Rd.of_row (hBi.owns 0 _ rfl)))
          have hOn : Only No wo wr := hOi.mono (fun k hk h => by omega)
          have hBr : Bun wr w.heap.size ((42, 1, .slice a3 f c3, f, us) :: cRows us ((skL l).take f)) := HB.out.1.only hOn (fun _ _ h => h)
          have HBr := Lib.hid (And.intro hBr (HB.out.2.trans hOn.of_no))
          have hzi := hOn.size
          clear hBi hOi hOn hBr
          go_wp2_with (first
            | (go_at_call 22; refine HMw.out.mono ?_; rintro e w5 ⟨t, rfl, ht, hO5⟩; obtain ⟨ta, tc, rfl, -⟩ := row_len ht; have hB5 := HBr.out.1.snoc_row hO5 (by omega) (81, 3, .slice ta 12 tc, 12, fl encC (makeC 12 (onF f l))) ht; have HB5 := Lib.hid hB5; have hz5 := hO5.size; clear hB5 ht)
            | (at_builtin; refine wpList_append1 rfl (.tmp 38) (.tmp 40) 26 rfl w.heap.size 42 j0 (.slice none 0 0) 1 24 Tryd.underlying26 jinf jz0 jz1 jz2 rfl (by decide) _ HB5.out 0 _ _ _ rfl rfl [.slice ta 12 tc] _ _ rfl rfl rfl (by simp [Value.oneCell']) (by unfold maxLen; omega) (by omega) (by omega) ?_; intro g6 c6 w6 hB6 hO6))
          go_roundw
          case rel =>
            refine ⟨f + 1, us ++ [.slice ta 12 tc], by omega, by go_num, by simp; exact hus, ?_, (HBr.out.2.trans hO5.of_no).trans hO6⟩
            have hts : (skL l).take (f + 1) = (skL l).take f ++ [makeC 12 (onF f l)] := by
              rw [List.take_add_one, skL_get l hlt]; rfl
            rw [hts, cRows_snoc (by rw [hus, List.length_take, skL_len]; omega), makeC_len]
            simpa [List.set] using hB6
          case measure => simp [intOf]; omega
    · obtain rfl : f = 16 := by omega
      rw [List.take_of_length_le (by simp)] at hB
      go_wp2
      go_ret
      exact ⟨_, rfl, Sk.of_bun hB (by rw [hus, skL_len]), hO.mono (fun k hk h => by omega)⟩
end Go.Proofs.YtdcinifcpaldiaaDoor

namespace Go.Proofs.YtdcinifcpaldiaaDoor
open Go.RowKit

/-- How many cells for so many numbers. -/
def cellsN (n : Int) : Nat := sizeN (2 * min (max n 0) 4095 + 12)
theorem skCells_c (n : Int) (w : World) : Calls Tryd.prog 14 #[.int .i64 n] w fun e w' => e = .returned (.int .i64 (cellsN n : Nat)) ∧ w = w' := by
  have h1 : 0 ≤ min (max n 0) 4095 ∧ min (max n 0) 4095 ≤ 4095 := by omega
  have H := Lib.hid (Size_c (2 * min (max n 0) 4095 + 12) w)
  unfold cellsN
  obtain ⟨m, hmm⟩ : ∃ m, min (max n 0) 4095 = m := ⟨_, rfl⟩
  rw [hmm] at h1 H ⊢
  generalize sizeN (2 * m + 12) = r at *
  have hm : 2 * m + 12 ≤ 10000 ∧ 0 ≤ 2 * m + 12 := by omega
  go_enter Tryd.func14, Tryd.ntmps14
  go_wp2_with (go_at_call 44; refine H.out.mono ?_; rintro e w' ⟨rfl, rfl⟩)
  go_ret
  exact ⟨rfl, rfl⟩
theorem rskCells_c (n : Int) (w : World) : Calls Tryd.prog 15 #[.int .i64 n] w fun e w' => e = .returned (.int .i64 (cellsN n : Nat)) ∧ w = w' := by
  have h1 : 0 ≤ min (max n 0) 4095 ∧ min (max n 0) 4095 ≤ 4095 := by omega
  have H := Lib.hid (rSize_c (2 * min (max n 0) 4095 + 12) w)
  unfold cellsN
  obtain ⟨m, hmm⟩ : ∃ m, min (max n 0) 4095 = m := ⟨_, rfl⟩
  rw [hmm] at h1 H ⊢
  generalize sizeN (2 * m + 12) = r at *
  have hm : 2 * m + 12 ≤ 10000 ∧ 0 ≤ 2 * m + 12 := by omega
  go_enter Tryd.func15, Tryd.ntmps15
  go_wp2_with (go_at_call 45; refine H.out.mono ?_; rintro e w' ⟨rfl, rfl⟩)
  go_ret
  exact ⟨rfl, rfl⟩
theorem sameC_refl25 (A : List Cell) : sameC A A = true := decide_eq_true rfl
set_option maxRecDepth 100000 in
set_option maxHeartbeats 1000000 in
theorem rskSame_c (v1 v2 : Value) (L : List (List Cell)) (w : World) (h1 : Sk w v1 L) (h2 : Sk w v2 L) (hL : L.length ≤ 1000) (hM : ∀ M ∈ L, M.length ≤ 1000) :
    Calls Tryd.prog 12 #[v1, v2] w fun e w' => e = .returned (.bool true) ∧ Only No w w' := by
  obtain ⟨a1, c1, rfl, -⟩ := h1.cases
  obtain ⟨a2, c2, rfl, -⟩ := h2.cases
  go_enter Tryd.func12, Tryd.ntmps12
  go_wp2
  go_loopw [5] (fun v5 wr => ∃ i : Nat, i ≤ L.length ∧ v5 = .int .i64 i ∧ Only No w wr) (fun v5 _ => L.length - (intOf v5).toNat)
  case atStart => exact ⟨0, by omega, rfl, Only.refl _ _⟩
  case round =>
    obtain ⟨i, hi, rfl, hO⟩ := hrel
    by_cases hlt : i < L.length
    · obtain ⟨-, b1, o1, t1, d1, rfl, hb1, k1, r1⟩ := (h1.no hO).at hlt
      obtain ⟨-, b2, o2, t2, d2, rfl, hb2, k2, r2⟩ := (h2.no hO).at hlt
      have hMl := hM _ (List.getElem_mem hlt)
      have HC := Lib.hid (fun (W : World) (h : Only No wr W) => SameC_c _ _ L[i] L[i] W (r1.no h) (r2.no h) (by omega) (by omega))
      rw [sameC_refl25] at HC
      generalize L[i] = M at *
      have HK := Lib.hid (fun (X : World) (h : Only No wr X) => And.intro h (And.intro ((h.cell (p := ⟨b1, o1 + i, none⟩) hb1 id).trans k1) ((h.cell (p := ⟨b2, o2 + i, none⟩) hb2 id).trans k2)))
      have HO := Lib.hid hO
      have hi0 : (0 : Int) ≤ (i : Int) := by omega
      have hil : (i : Int) < (L.length : Int) := by omega
      clear hO r1 r2 h1 h2
      go_wp2_with fail
      go_region_held3 (fun w' => Only No wr w' ∧ w'.cell? ⟨b1, o1 + i, none⟩ = some (.slice t1 M.length d1) ∧ w'.cell? ⟨b2, o2 + i, none⟩ = some (.slice t2 M.length d2))
        (first | exact HK.out _ (Only.refl _ _).drew | exact HK.out _ (Only.refl _ _) | (refine HK.out _ (Only.trans ?_ hOk); exact And.left (by assumption))) (first
        | (go_at_call 24; ((with_reducible refine (HC.out _ (And.left (by assumption))).mono ?_); rintro e w1' ⟨rfl, hOk⟩))
        | fail)
      go_wp2
      go_roundw
      case rel => exact ⟨i + 1, by omega, by go_num, HO.out.trans (And.left (by assumption))⟩
      case measure => simp [intOf]; omega
    · obtain rfl : i = L.length := by omega
      go_wp2
      go_ret
      exact ⟨rfl, hO⟩
end Go.Proofs.YtdcinifcpaldiaaDoor

namespace Go.Proofs.YtdcinifcpaldiaaDoor
open Go.RowKit

/-- 'append(l, xs...)' of one own slice, where xs is read: where the new one lies. -/
theorem wpList_appendRd {P : Program} {W : World} {ops : Array Oper} {rest : List Oper} {o : Oper} {a : Act} {Q : Exit → Act → World → Prop} (hgd : o.guard = none) (s x : Operand) (t : TypeId)
    (ho : o.op = .call { callee := .builtin .append, args := #[s, x], argTypes := #[t, t] })
    (base : Nat) (e : TypeId) (i : TypeInfo) (z : Value) (size bytes : Nat) (ht : P.underlying t = some (.slice e)) (hi : P.info? e = some i) (hz : i.zero = some z)
    (hsize : i.size = size) (hby : i.bytes = bytes) (hzs : z.cells.size = size) (hsz : 0 < size)
    (v : Value) (n : Nat) (xs : List Value) (hs : a.eval s = v) (hown : W.ownsRow base e size v n xs)
    (sv : Value) (m : Nat) (news : List Value) (hx : a.eval x = sv) (hr : RdN size W sv m news) (h1 : ∀ u ∈ news, u.oneCell' = true)
    (h63 : n + m ≤ maxLen) (hbytes : (n + m) * bytes ≤ 140737488355328) (hbase : base ≤ W.heap.size)
    (h : ∀ a' cap' w', w'.ownsRow base e size (.slice a' (n + m) cap') (n + m) (xs ++ news) → Only (fun k => v.ownBlock = some k) W w' → (∀ k, (Value.slice a' (n + m) cap').ownBlock = some k → v.ownBlock = some k ∨ W.heap.size ≤ k) → wpList P ops Q rest (a.put o.dst (.slice a' (n + m) cap')) w') : wpList P ops Q (o :: rest) a W := by
  refine wpList_plain hgd fun K hK => ?_
  obtain ⟨v', w', hrun, h2, h3, h4⟩ := run_append_rd (P := P) W base t o.type e i z size bytes ht hi hz hsize hby hzs hsz v n xs hown sv m news hr h1 h63 hbytes hbase
  unfold Oper.wp execOp
  simp only [ho, resolve, invoke, builtin, Sem.run_bind, Sem.run_pure, Result.andThen_ok, List.map_toArray, List.map_cons, List.map_nil, hs, hx, hrun]
  refine hK _ _ ?_
  obtain ⟨a', cap', hv', -⟩ := row_len h2
  subst hv'
  refine h a' cap' w' h2 ((Only.refl _ W).grown h3 (fun k hk _ => hk)) (fun k hk => ?_)
  rcases h4 with h4 | h4
  · exact .inl (by rw [← h4]; exact hk)
  · rw [h4] at hk; injection hk with hk; exact .inr (by omega)
/-- Block b is a writer that holds the bytes l, in the slice v, in a block behind it. -/
def Wrt (w : World) (b : Nat) (v : Value) (l : List Nat) : Prop := Blk w b #[v] 102 ∧ w.ownsRow (b + 1) 5 1 v l.length (u8s l)
/-- What a writer turns. -/
def WT (b : Nat) (v : Value) : Nat → Prop := fun k => k = b ∨ v.ownBlock = some k
theorem Wrt.no {w w' : World} {b : Nat} {v : Value} {l : List Nat} (h : Wrt w b v l) (hO : Only No w w') : Wrt w' b v l := ⟨hO.blk h.1 id, hO.row h.2 (fun _ _ h => h)⟩
theorem Wrt.lt {w : World} {b : Nat} {v : Value} {l : List Nat} (h : Wrt w b v l) : b < w.heap.size := h.1.lt
theorem WT.ge {w : World} {b : Nat} {v : Value} {l : List Nat} (h : Wrt w b v l) {k : Nat} (hk : WT b v k) : b ≤ k := by
  rcases hk with rfl | hk
  · exact Nat.le_refl _
  · have := (h.2.lt k hk).1; omega
theorem wNew_c (w : World) : Calls Tryd.prog 35 #[] w fun e w' => e = .returned (.pointer (some ⟨w.heap.size, 0, none⟩)) ∧ Wrt w' w.heap.size (.slice none 0 0) [] ∧ Only No w w' := by
  go_enter Tryd.func35, Tryd.ntmps35
  go_wp2
  go_ret
  exact ⟨rfl, ⟨Blk.new w _ _, World.ownsRow_nil _ _ _ _⟩, (Only.refl _ _).alloc _⟩
set_option maxRecDepth 100000 in
theorem wput_c (b : Nat) (v : Value) (l m : List Nat) (v2 : Value) (w : World) (h : Wrt w b v l) (hR : Rd w v2 (u8s m)) (hl : l.length + m.length ≤ 100000000) :
    Calls Tryd.prog 77 #[.pointer (some ⟨b, 0, none⟩), v2] w fun e w' => e = .returned (.tuple #[]) ∧ ∃ v', Wrt w' b v' (l ++ m) ∧ Only (WT b v) w w' ∧ ∀ k, v'.ownBlock = some k → v.ownBlock = some k ∨ w.heap.size ≤ k := by
  obtain ⟨i0, hinf, hz0, hz1, hz2⟩ := info_parts info_u8
  have hRn := Lib.hid hR.sized
  obtain ⟨a2, c2, rfl, -⟩ := hR.cases
  rw [u8s_len] at *
  obtain ⟨hB, hrow⟩ := h
  obtain ⟨a, c, rfl, -⟩ := row_len hrow
  have c0 := hB.cell 0 _ rfl
  have f0 := hB.free 0
  have hlt := hB.lt
  have hz : b + 1 ≤ w.heap.size := hlt
  have HB := Lib.hid (And.intro hB hrow)
  clear hB hrow hR
  go_enter Tryd.func77, Tryd.ntmps77
  go_wp2_with (at_builtin; refine wpList_appendRd rfl (.tmp 10) (.tmp 11) 28 rfl (b + 1) 5 i0 (.int .u8 0) 1 1 Tryd.underlying28 hinf hz0 hz1 hz2 rfl (by decide) _ _ _ rfl HB.out.2 _ m.length (u8s m) rfl hRn.out (by intro u hu; obtain ⟨y, _, rfl⟩ := List.mem_map.1 hu; rfl) (by unfold maxLen; omega) (by omega) hz ?_; intro a5 c5 w5 hB5 hO5 hat5; have hB6 := hO5.blk HB.out.1 (by intro e; have := (HB.out.2.lt b e).1; omega); have f6 := hB6.free 0; have k6 := hB6.cell 0 _ rfl)
  go_end0
  refine ⟨rfl, .slice a5 (l.length + m.length) c5, ⟨by simpa using hB6.set 0 (.slice a5 (l.length + m.length) c5), ?_⟩, ?_, hat5⟩
  · refine Only.row (S := (· = b)) ((Only.refl _ _).set1 _ _) ?_ (fun k hk e => by have := (hB5.lt k hk).1; have e' : k = b := e; omega)
    simpa [u8s] using hB5
  · exact (hO5.mono (fun k _ hk => Or.inr hk)).setCell _ _ (fun _ => Or.inl rfl)
theorem rd_u8 {w : World} {g : Nat} {l : List Nat} {t : TypeId} (h : Blk w g (u8s l).toArray t) : Rd w (.slice (some ⟨g, 0, none⟩) l.length l.length) (u8s l) := by
  have := Rd.of_blk h (cap := l.length) (by rw [u8s_len]; exact Nat.le_refl _)
  rw [u8s_len] at this
  exact this
set_option maxRecDepth 100000 in
theorem wNum_c (b : Nat) (v : Value) (l : List Nat) (x : Nat) (w : World) (h : Wrt w b v l) (hx : W64 x) (hl : l.length ≤ 10000000) :
    Calls Tryd.prog 76 #[.pointer (some ⟨b, 0, none⟩), .int .u64 (x : Int)] w fun e w' => e = .returned (.tuple #[]) ∧ ∃ v', Wrt w' b v' (l ++ varL x) ∧ Only (WT b v) w w' ∧ ∀ k, v'.ownBlock = some k → v.ownBlock = some k ∨ w.heap.size ≤ k := by
  have hv := varL_len x hx
  have H1 := Lib.hid (Var_pack x w hx)
  have H2 := Lib.hid (fun (v2 : Value) (W : World) (hO : Only No w W) hr => wput_c b v l (varL x) v2 W (h.no hO) hr (by omega))
  clear h
  go_enter Tryd.func76, Tryd.ntmps76
  go_wp2_with (first
    | (go_at_call 73; refine H1.out.mono ?_; rintro e w1 ⟨g, rfl, -, hb, hO1⟩; have hr := rd_u8 hb)
    | (go_at_call 77; refine (H2.out _ _ hO1 hr).mono ?_; rintro e w2 ⟨rfl, v', h2, hO2, hat⟩))
  go_end0
  exact ⟨rfl, v', h2, hO1.of_no.trans hO2, fun k hk => (hat k hk).imp id (fun h => Nat.le_trans hO1.size h)⟩
set_option maxRecDepth 100000 in
theorem wBytes_c (b : Nat) (v : Value) (l m : List Nat) (v2 : Value) (w : World) (h : Wrt w b v l) (hR : Rd w v2 (u8s m)) (hs : ∀ k, v2.ownBlock = some k → ¬ WT b v k) (hl : l.length ≤ 10000000) (hm : m.length ≤ 10000000) :
    Calls Tryd.prog 37 #[.pointer (some ⟨b, 0, none⟩), v2] w fun e w' => e = .returned (.tuple #[]) ∧ ∃ v', Wrt w' b v' (l ++ (varL m.length ++ m)) ∧ Only (WT b v) w w' ∧ ∀ k, v'.ownBlock = some k → v.ownBlock = some k ∨ w.heap.size ≤ k := by
  have hv := varL_len m.length (by omega)
  have H1 := Lib.hid (wNum_c b v l m.length w h (by unfold W64; omega) hl)
  have H2 := Lib.hid (fun (v1 : Value) (W : World) (hO : Only (WT b v) w W) h' => wput_c b v1 (l ++ varL m.length) m v2 W h' (hR.only hO (fun k hk _ hb => hs k hk hb)) (by rw [List.length_append]; omega))
  obtain ⟨a, c, rfl, -⟩ := hR.cases
  rw [u8s_len] at *
  clear h hR hs
  rw [← List.append_assoc]
  go_enter Tryd.func37, Tryd.ntmps37
  go_wp2_with (first
    | (go_at_call 76; refine H1.out.mono ?_; rintro e w1 ⟨rfl, v1, h1, hO1, hat1⟩)
    | (go_at_call 77; refine (H2.out _ _ hO1 h1).mono ?_; rintro e w2 ⟨rfl, v2', h2, hO2, hat2⟩))
  go_end0
  refine ⟨rfl, v2', h2, hO1.then hO2 (fun k hk e => ?_), fun k hk => ?_⟩
  · rcases e with rfl | e
    · exact .inl rfl
    · rcases hat1 k e with e | e
      · exact .inr e
      · omega
  · rcases hat2 k hk with e | e
    · exact hat1 k e
    · exact .inr (Nat.le_trans hO1.size e)
set_option maxRecDepth 100000 in
theorem wOut_c (b : Nat) (v0 : Value) (l : List Nat) (w : World) (h : Wrt w b v0 l) (hl : l.length ≤ 100000000) :
    Calls Tryd.prog 38 #[.pointer (some ⟨b, 0, none⟩)] w fun e w' => ∃ v, e = .returned v ∧ Rd w' v (u8s l) ∧ Only No w w' := by
  obtain ⟨i0, hinf, hz0, hz1, hz2⟩ := info_parts info_u8
  obtain ⟨hB, hBu⟩ := h
  have hRn := RdN.of_row hBu
  obtain ⟨a, c, rfl, -⟩ := row_len hBu
  have c0 := hB.cell 0 _ rfl
  have hlt := hB.lt
  have hBE := Bun.empty w w.heap.size 5 1 (Nat.le_refl _)
  have hOE := (Only.refl No w).alloc (.cells #[] 5)
  have hRE := hRn.no hOE
  have hzE := hOE.size
  have HB := Lib.hid (And.intro hBE (And.intro hRE hOE))
  clear hB hBu hRn hBE hRE hOE
  go_enter Tryd.func38, Tryd.ntmps38
  go_wp2_with (at_builtin; refine wpList_appendL rfl (.tmp 5) (.tmp 9) 28 rfl w.heap.size 5 i0 (.int .u8 0) 1 1 Tryd.underlying28 hinf hz0 hz1 hz2 rfl (by decide) _ HB.out.1 0 _ 0 [] rfl rfl _ l.length (u8s l) rfl HB.out.2.1 (by intro u hu; obtain ⟨y, _, rfl⟩ := List.mem_map.1 hu; rfl) (by unfold maxLen; omega) (by omega) hzE ?_; intro a5 c5 w5 hB5 hO5 _)
  go_ret
  refine ⟨_, rfl, ?_, (HB.out.2.2.of_no.trans hO5).mono (fun k hk h => by omega)⟩
  have := Rd.of_row (hB5.owns 0 _ rfl)
  simpa [List.set] using this
end Go.Proofs.YtdcinifcpaldiaaDoor

namespace Go.Proofs.YtdcinifcpaldiaaDoor
open Go.RowKit

def encS (L : List (List Cell)) : List Nat := L.flatMap fun M => varL (encK M).length ++ encK M
def RightS (L : List (List Cell)) : Prop := L.length = 16 ∧ ∀ M ∈ L, M.length = 12
instance (L : List (List Cell)) : Decidable (RightS L) := by unfold RightS; infer_instance
def encR (L : List (List Cell)) : List Nat × Nat := if RightS L then (encS L, 0) else ([], 1)
theorem enc12_len {M : List Cell} (hok : OkL M) (h : M.length = 12) : (encK M).length ≤ 400 := by
  unfold encK
  rw [List.length_append]
  have h1 := (varL_len M.length (by omega)).2
  have h2 : ∀ N : List Cell, OkL N → (N.flatMap enc1).length ≤ 26 * N.length := by
    intro N
    induction N with
    | nil => intro _; simp
    | cons c N ih =>
      intro hN
      have h3 := enc1_len (hN c (List.mem_cons_self ..))
      have h4 := ih (fun d hd => hN d (List.mem_cons_of_mem _ hd))
      rw [List.flatMap_cons, List.length_append, List.length_cons]
      omega
  have := h2 M hok
  omega
theorem encS_snoc (L : List (List Cell)) (M : List Cell) : encS (L ++ [M]) = encS L ++ (varL (encK M).length ++ encK M) := by simp [encS]
theorem encS_len : ∀ {L : List (List Cell)}, (∀ M ∈ L, OkL M) → (∀ M ∈ L, M.length = 12) → (encS L).length ≤ 410 * L.length
  | [], _, _ => by simp [encS]
  | M :: L, hok, h => by
    have h1 := enc12_len (hok M (List.mem_cons_self ..)) (h M (List.mem_cons_self ..))
    have h2 := (varL_len (encK M).length (by omega)).2
    have h3 := encS_len (L := L) (fun d hd => hok d (List.mem_cons_of_mem _ hd)) (fun d hd => h d (List.mem_cons_of_mem _ hd))
    have e : encS (M :: L) = (varL (encK M).length ++ encK M) ++ encS L := by simp [encS]
    rw [e, List.length_append, List.length_append, List.length_cons]
    omega
theorem Sk.from {w w' : World} {v : Value} {L : List (List Cell)} (h : Sk w v L) {B : Nat} (hO : Only (fun k => B ≤ k) w w') (hB : w.heap.size ≤ B) : Sk w' v L := by
  obtain ⟨vs, h1, h2, h3⟩ := h
  exact ⟨vs, h1, h2.from (w0 := w) hO hB, fun i u M hu hM => (h3 i u M hu hM).from hO hB⟩
theorem all_snoc {L : List (List Cell)} {i : Nat} (hi : i < L.length) (h : ∀ M ∈ L.take i, M.length = 12) (h2 : L[i].length = 12) : ∀ M ∈ L.take (i + 1), M.length = 12 := by
  rw [List.take_succ_eq_append_getElem hi]
  intro M hM
  rcases List.mem_append.1 hM with hM | hM
  · exact h M hM
  · simp at hM; rw [hM]; exact h2
set_option maxRecDepth 100000 in
set_option maxHeartbeats 1000000 in
theorem rRight_c (v : Value) (L : List (List Cell)) (w : World) (h : Sk w v L) (hL : L.length ≤ 1000) (hM : ∀ M ∈ L, M.length ≤ 1000) :
    Calls Tryd.prog 39 #[v] w fun e w' => e = .returned (.bool (decide (RightS L))) ∧ w = w' := by
  obtain ⟨a1, c1, rfl, -⟩ := h.cases
  obtain ⟨r, hr⟩ : ∃ r : Bool, r = decide (RightS L) := ⟨_, rfl⟩
  rw [← hr]
  have HR := Lib.hid hr
  clear hr
  go_enter Tryd.func39, Tryd.ntmps39
  go_wp2
  go_loop [3] (fun v3 => ∃ i : Nat, i ≤ L.length ∧ v3 = .int .i64 i ∧ ∀ M ∈ L.take i, M.length = 12) (fun v3 => L.length - (intOf v3).toNat)
  case atStart => exact ⟨0, by omega, rfl, by simp⟩
  case round =>
    obtain ⟨i, hi, rfl, hp⟩ := hrel
    by_cases hlt : i < L.length
    · obtain ⟨-, b1, o1, t1, d1, rfl, hb1, k1, r1⟩ := h.at hlt
      have hMl := hM _ (List.getElem_mem hlt)
      have HS := Lib.hid (fun h2 => all_snoc hlt hp h2)
      have HN := Lib.hid (fun (h2 : L[i].length ≠ 12) => show decide (RightS L) = false from decide_eq_false (fun hr => h2 (hr.2 _ (List.getElem_mem hlt))))
      generalize L[i] = M at *
      clear hp r1 h
      by_cases h12 : M.length = 12
      · have hne : ((M.length : Int) != 12) = false := by simp; omega
        have HS2 := Lib.hid (HS.out h12)
        clear h12
        go_wp2
        go_round
        case rel => exact ⟨i + 1, by omega, by go_num, HS2.out⟩
        case measure => simp [intOf]; omega
      · have hne : ((M.length : Int) != 12) = true := by simp; omega
        have HN2 := Lib.hid (HN.out h12)
        clear h12
        go_wp2
        go_ret
        exact ⟨ret_eq (congrArg Value.bool (by rw [HR.out, HN2.out])), rfl⟩
    · obtain rfl : i = L.length := by omega
      rw [List.take_length] at hp
      by_cases h16 : L.length = 16
      · have hq : ((L.length : Int) == 16) = true := by simp; omega
        have HT := Lib.hid (show decide (RightS L) = true from decide_eq_true ⟨h16, hp⟩)
        clear h16 hp
        go_wp2
        go_ret
        exact ⟨ret_eq (congrArg Value.bool (by rw [HR.out, HT.out])), rfl⟩
      · have hq : ((L.length : Int) == 16) = false := by simp; omega
        have HT := Lib.hid (show decide (RightS L) = false from decide_eq_false (fun hr => h16 hr.1))
        clear h16 hp
        go_wp2
        go_ret
        exact ⟨ret_eq (congrArg Value.bool (by rw [HR.out, HT.out])), rfl⟩
set_option maxRecDepth 100000 in
set_option maxHeartbeats 2000000 in
theorem skEnc_c (v : Value) (L : List (List Cell)) (w : World) (h : Sk w v L) (hok : ∀ M ∈ L, OkL M) (hL : L.length ≤ 1000) (hM : ∀ M ∈ L, M.length ≤ 1000) :
    Calls Tryd.prog 10 #[v] w fun e w' => ∃ u, e = .returned (.tuple #[u, .int .i64 ((encR L).2 : Nat)]) ∧ Rd w' u (u8s (encR L).1) ∧ Only No w w' := by
  obtain ⟨a1, c1, rfl, -⟩ := h.cases
  obtain ⟨x, hx⟩ : ∃ x, x = encR L := ⟨_, rfl⟩
  rw [← hx]
  have HX := Lib.hid hx
  clear hx
  by_cases h16 : L.length = 16
  · have hne : ((L.length : Int) != 16) = false := by simp; omega
    have HOk := Lib.hid hok
    have HN := Lib.hid (wNew_c w)
    clear hok
    go_enter Tryd.func10, Tryd.ntmps10
    go_wp2_with (go_at_call 35; refine HN.out.mono ?_; rintro e w1 ⟨rfl, hW1, hO1⟩)
    have hlt1 := hW1.lt
    go_loopw [15] (fun v15 wr => ∃ (i : Nat) (v0 : Value), i ≤ L.length ∧ v15 = .int .i64 i ∧ (∀ M ∈ L.take i, M.length = 12) ∧ Wrt wr w.heap.size v0 (encS (L.take i)) ∧ Only (fun k => w.heap.size ≤ k) w wr) (fun v15 _ => L.length - (intOf v15).toNat)
    case atStart => exact ⟨0, _, by omega, rfl, by simp, hW1, hO1.of_no⟩
    case round =>
      obtain ⟨i, v0, hi, rfl, hp, hW, hO⟩ := hrel
      have hOe : Only No w wr := hO.mono (fun k hk e => by have e' : w.heap.size ≤ k := e; exfalso; omega)
      by_cases hlt : i < L.length
      · obtain ⟨-, b1, o1, t1, d1, rfl, hb1, k1, r1⟩ := (h.no hOe).at hlt
        have hMl := hM _ (List.getElem_mem hlt)
        have hokM := HOk.out _ (List.getElem_mem hlt)
        have hSn := encS_snoc (L.take i) L[i]
        rw [← List.take_succ_eq_append_getElem hlt] at hSn
        have HS := Lib.hid (fun h2 => all_snoc hlt hp h2)
        have HN := Lib.hid (fun (h2 : L[i].length ≠ 12) => show encR L = ([], 1) from if_neg (fun hr => h2 (hr.2 _ (List.getElem_mem hlt))))
        have hln := encS_len (L := L.take i) (fun M hM => HOk.out M (List.mem_of_mem_take hM)) hp
        rw [List.length_take] at hln
        generalize L[i] = M at *
        clear hp h
        by_cases h12 : M.length = 12
        · have hne2 : ((M.length : Int) != 12) = false := by simp; omega
          have HS2 := Lib.hid (HS.out h12)
          have hml := enc12_len hokM h12
          have HE := Lib.hid (EncK_o _ M wr r1 hokM (by rw [h12]; exact ⟨by omega, by omega, by omega⟩))
          have HB := Lib.hid (fun (u : Value) (W : World) (hO : Only No wr W) hR hs => wBytes_c w.heap.size v0 (encS (L.take i)) (encK M) u W (hW.no hO) hR hs (by omega) (by omega))
          have HW := Lib.hid hW
          have HSn := Lib.hid hSn
          have HOr := Lib.hid hO
          have hzr := hO.size
          clear h12 HN hSn hW r1 hO hOe hokM
          generalize encK M = y at *
          go_wp2_with (first
            | (go_at_call 36; refine HE.out.mono ?_; rintro e w2 ⟨u, rfl, hu, hO2⟩; have hru := Rd.of_row hu; have hsu : ∀ k, u.ownBlock = some k → ¬ WT w.heap.size v0 k := (fun k hk e => by
                have h1 := (hu.lt k hk).1
                have h9 := HW.out.lt
                rcases e with e | e
                · omega
                · have := (HW.out.2.lt k e).2; omega); have HU := Lib.hid (And.intro hru hsu); clear hru hsu hu)
            | (go_at_call 37; refine (HB.out _ _ hO2 HU.out.1 HU.out.2).mono ?_; rintro e w3 ⟨rfl, v1, hW3, hO3, -⟩))
          go_roundw
          case rel =>
            refine ⟨i + 1, v1, by omega, by go_num, HS2.out, by rw [HSn.out]; exact hW3, (HOr.out.trans hO2.of_no).trans (hO3.mono (fun k _ hk => WT.ge (HW.out.no hO2) hk))⟩
          case measure => simp [intOf]; omega
        · have hne2 : ((M.length : Int) != 12) = true := by simp; omega
          obtain rfl : x = ([], 1) := HX.out.trans (HN.out h12)
          have HOr := Lib.hid hOe
          by_cases hmay : May (M.length : Int)
          · have HE := Lib.hid (EncK_c _ M wr r1 hokM hmay)
            clear h12 HN hSn hW r1 hO hOe hokM hmay
            generalize encK M = y at *
            go_wp2_with (go_at_call 36; refine HE.out.mono ?_; rintro e w2 ⟨u, rfl, hu, hO2⟩)
            go_ret2
            exact ⟨_, rfl, Rd.nil _ _ _, HOr.out.trans hO2⟩
          · have HE := Lib.hid (EncK_no t1 M.length d1 wr hmay)
            clear h12 HN hSn hW r1 hO hOe hokM hmay
            go_wp2_with (go_at_call 36; refine HE.out.mono ?_; rintro e w2 ⟨rfl, rfl⟩)
            go_ret2
            exact ⟨_, rfl, Rd.nil _ _ _, HOr.out⟩
      · obtain rfl : i = L.length := by omega
        rw [List.take_length] at hp hW
        have hln := encS_len (L := L) HOk.out hp
        obtain rfl : x = (encS L, 0) := HX.out.trans (if_pos ⟨h16, hp⟩)
        have HOut := Lib.hid (wOut_c w.heap.size v0 (encS L) wr hW (by omega))
        have HOr := Lib.hid hOe
        clear hp hW hO hOe h
        go_wp2_with (go_at_call 38; refine HOut.out.mono ?_; rintro e w2 ⟨u, rfl, hu, hO2⟩)
        go_ret2
        exact ⟨_, rfl, hu, HOr.out.trans hO2⟩
  · have hne : ((L.length : Int) != 16) = true := by simp; omega
    obtain rfl : x = ([], 1) := HX.out.trans (if_neg (fun hr => h16 hr.1))
    clear h16 h hok
    go_enter Tryd.func10, Tryd.ntmps10
    go_wp2
    go_ret2
    exact ⟨_, rfl, Rd.nil _ _ _, Only.refl _ _⟩
set_option maxRecDepth 100000 in
set_option maxHeartbeats 2000000 in
theorem rskEnc_c (v : Value) (L : List (List Cell)) (w : World) (h : Sk w v L) (hok : ∀ M ∈ L, OkL M) (hL : L.length ≤ 1000) (hM : ∀ M ∈ L, M.length ≤ 1000) :
    Calls Tryd.prog 11 #[v] w fun e w' => ∃ u, e = .returned (.tuple #[u, .int .i64 ((encR L).2 : Nat)]) ∧ Rd w' u (u8s (encR L).1) ∧ Only No w w' := by
  obtain ⟨i0, hinf, hz0, hz1, hz2⟩ := info_parts info_u8
  have HRt := Lib.hid (rRight_c v L w h hL hM)
  obtain ⟨a1, c1, rfl, -⟩ := h.cases
  obtain ⟨x, hx⟩ : ∃ x, x = encR L := ⟨_, rfl⟩
  rw [← hx]
  have HX := Lib.hid hx
  clear hx
  by_cases hr : RightS L
  · obtain rfl : x = (encS L, 0) := HX.out.trans (if_pos hr)
    rw [decide_eq_true hr] at HRt
    have HOk := Lib.hid hok
    have HRr := Lib.hid hr
    have hu8 : ∀ l : List Nat, ∀ u ∈ u8s l, u.oneCell' = true := by intro l u hu; obtain ⟨y, _, rfl⟩ := List.mem_map.1 hu; rfl
    have HU8 := Lib.hid hu8
    clear hok hu8 hr
    go_enter Tryd.func11, Tryd.ntmps11
    go_wp2_with (go_at_call 39; refine HRt.out.mono ?_; rintro e w' ⟨rfl, rfl⟩)
    go_loopw [4, 5] (fun v4 v5 wr => ∃ (i : Nat), i ≤ 16 ∧ v5 = .int .i64 i ∧ Bun wr w.heap.size [(5, 1, v4, (encS (L.take i)).length, u8s (encS (L.take i)))] ∧ Only (fun k => w.heap.size ≤ k) w wr) (fun _ v5 _ => 16 - (intOf v5).toNat)
    case atStart => exact ⟨0, by omega, rfl, (Bun.nil _ _).cons_nil _ _, Only.refl _ _⟩
    case round =>
      obtain ⟨i, hi, rfl, hB, hO⟩ := hrel
      have hOe : Only No w wr := hO.mono (fun k hk e => by have e' : w.heap.size ≤ k := e; exfalso; omega)
      obtain ⟨a4, c4, rfl⟩ := bun_is hB 0 rfl
      by_cases hlt : i < 16
      · have hltL : i < L.length := by rw [HRr.out.1]; exact hlt
        obtain ⟨-, b1, o1, t1, d1, rfl, hb1, k1, r1⟩ := (h.no hOe).at hltL
        have h12 := HRr.out.2 _ (List.getElem_mem hltL)
        have hokM := HOk.out _ (List.getElem_mem hltL)
        have hSn := encS_snoc (L.take i) L[i]
        rw [← List.take_succ_eq_append_getElem hltL] at hSn
        have hln := encS_len (L := L.take i) (fun M hM => HOk.out M (List.mem_of_mem_take hM)) (fun M hM => HRr.out.2 M (List.mem_of_mem_take hM))
        rw [List.length_take] at hln
        generalize L[i] = M at *
        have hml := enc12_len hokM h12
        have HE := Lib.hid (rEncK_o _ M wr r1 hokM (by rw [h12]; exact ⟨by omega, by omega, by omega⟩))
        have HSn := Lib.hid hSn
        have HAL := Lib.hid (fun k (hk : (Value.slice a4 (encS (L.take i)).length c4).ownBlock = some k) => ((hB.owns 0 _ rfl).lt hk).2)
        have HB := Lib.hid hB
        have HOr := Lib.hid hO
        have hzr := hO.size
        clear h12 hSn r1 hO hOe hokM hB h
        generalize encK M = y at *
        have hvl := varL_len y.length (by omega)
        have HV := Lib.hid (fun W => rVar_c y.length (by unfold W64; omega) W)
        obtain ⟨q, hq⟩ : ∃ q, encS (L.take i) = q := ⟨_, rfl⟩
        rw [hq] at HSn HB hln HAL ⊢
        go_wp2_with (first
          | (go_at_call 40; refine HE.out.mono ?_; rintro e w2 ⟨u, rfl, hu, hO2⟩; obtain ⟨ua, uc, rfl, -⟩ := row_len hu; have HRu := Lib.hid (RdN.of_row hu); have HUL := Lib.hid (fun k hk => (hu.lt k hk).1); have HB2 := Lib.hid (HB.out.only hO2 (fun _ _ h => h)); have hz2' := Nat.le_trans hzr hO2.size; clear hu)
          | (go_at_call 41; refine (HV.out _).mono ?_; rintro e w3 ⟨v3, rfl, hv3, hO3⟩; have HRv := Lib.hid (RdN.of_row hv3); have HB3 := Lib.hid (HB2.out.only hO3 (fun _ _ h => h)); have HRu3 := Lib.hid (HRu.out.no hO3); have hz3' := Nat.le_trans hz2' hO3.size; clear hv3)
          | (at_builtin; refine wpList_appendL rfl (.tmp 23) (.tmp 27) 28 rfl w.heap.size 5 i0 (.int .u8 0) 1 1 Tryd.underlying28 hinf hz0 hz1 hz2 rfl (by decide) _ HB3.out 0 _ _ _ rfl rfl _ (varL y.length).length (u8s (varL y.length)) rfl HRv.out (HU8.out _) (by unfold maxLen; omega) (by omega) hz3' ?_; intro a5 c5 w5 hB5 hO5 hOf5; have HB5 := Lib.hid hB5; have hz5' := Nat.le_trans hz3' hO5.size; clear hB5)
          | (at_builtin; refine wpList_appendL rfl (.tmp 28) (.tmp 29) 28 rfl w.heap.size 5 i0 (.int .u8 0) 1 1 Tryd.underlying28 hinf hz0 hz1 hz2 rfl (by decide) _ HB5.out 0 _ _ _ rfl rfl _ y.length (u8s y) rfl (HRu3.out.only hOf5 (fun b hb _ e => by have h1 := HUL.out b hb; have h2 := HAL.out b e; omega)) (HU8.out _) (by unfold maxLen; omega) (by omega) hz5' ?_; intro a6 c6 w6 hB6 hO6 _))
        go_roundw
        case rel =>
          refine ⟨i + 1, by omega, by go_num, ?_, ((((HOr.out.trans hO2.of_no).trans hO3.of_no).trans hO5).trans hO6)⟩
          rw [HSn.out]
          have := hB6
          simpa [List.set, u8s, List.append_assoc, Nat.add_assoc] using this
        case measure => simp [intOf]; omega
      · obtain rfl : i = 16 := by omega
        have e16 : L.take 16 = L := List.take_of_length_le (by rw [HRr.out.1]; exact Nat.le_refl _)
        simp only [e16] at hB ⊢
        have HOr := Lib.hid hOe
        have HR := Lib.hid (Rd.of_row (hB.owns 0 _ rfl))
        clear hB hO hOe h
        go_wp2
        go_ret2
        exact ⟨_, rfl, HR.out, HOr.out⟩
  · obtain rfl : x = ([], 1) := HX.out.trans (if_neg hr)
    rw [decide_eq_false hr] at HRt
    clear hr h hok
    go_enter Tryd.func11, Tryd.ntmps11
    go_wp2_with (go_at_call 39; refine HRt.out.mono ?_; rintro e w' ⟨rfl, rfl⟩)
    go_ret2
    exact ⟨_, rfl, Rd.nil _ _ _, Only.refl _ _⟩
end Go.Proofs.YtdcinifcpaldiaaDoor

namespace Go.Proofs.YtdcinifcpaldiaaDoor
open Go.RowKit

/-- What is peeled of any table. -/
def pk (M : List Cell) : Bool × List Nat × List Nat := if 3 ≤ M.length ∧ M.length ≤ 4095 ∧ M.length % 3 = 0 then peelF (M.length / 3) M else (false, [], [])
theorem pk_len {M : List Cell} (hok : OkL M) : (pk M).2.1.length + (pk M).2.2.length ≤ M.length := by
  unfold pk
  split
  · exact (peelF_len hok (b := (peelF (M.length / 3) M).1) rfl).1
  · simp
theorem Peel_pk (v : Value) (M : List Cell) (w : World) (hR : RdN 3 w v M.length (fl encC M)) (hok : OkL M) :
    Calls Tryd.prog 57 #[v] w fun e w' => ∃ u1 u2, e = .returned (.tuple #[u1, u2, .bool (pk M).1]) ∧ Rd w' u1 (u64s (pk M).2.1) ∧ Rd w' u2 (u64s (pk M).2.2) ∧ Only No w w' := by
  unfold pk
  split
  · rename_i h
    exact Peel_c v M (M.length / 3) w hR (by omega) (by omega) (by omega) hok
  · rename_i h
    obtain ⟨a, cap, rfl, -⟩ := hR.cases
    refine (Peel_no a M.length cap w (fun hm => h ⟨by have := hm.1; omega, by have := hm.2.1; omega, by have := hm.2.2; omega⟩)).mono ?_
    rintro e w' ⟨rfl, rfl⟩
    exact ⟨_, _, rfl, Rd.nil _ _ _, Rd.nil _ _ _, Only.refl _ _⟩
def guessGo (L : List (List Cell)) : Nat → Nat → Nat
  | 0, n => n
  | f + 1, n => if (pk (L.getD f [])).1 = true then guessGo L f (n + ((pk (L.getD f [])).2.1.length + (pk (L.getD f [])).2.2.length)) else (n + 1) * 2 ^ (f + 1)
def guessL (L : List (List Cell)) : Nat := if L.length = 16 then guessGo L 16 0 else 0
theorem guessGo_done {L : List (List Cell)} {f n : Nat} {M : List Cell} (hM : L[f]? = some M) (h : (pk M).1 = true) : guessGo L (f + 1) n = guessGo L f (n + ((pk M).2.1.length + (pk M).2.2.length)) := by
  have e : L.getD f [] = M := by rw [List.getD_eq_getElem?_getD, hM]; rfl
  rw [guessGo, e, if_pos h]
theorem guessGo_not {L : List (List Cell)} {f n : Nat} {M : List Cell} (hM : L[f]? = some M) (h : (pk M).1 = false) : guessGo L (f + 1) n = (n + 1) * 2 ^ (f + 1) := by
  have e : L.getD f [] = M := by rw [List.getD_eq_getElem?_getD, hM]; rfl
  rw [guessGo, e, if_neg (by rw [h]; simp)]
theorem guess_small {n f : Nat} (hn : n ≤ 16000) (hf : f ≤ 15) : (n + 1) * 2 ^ (f + 1) ≤ 16001 * 65536 :=
  Nat.mul_le_mul (by omega) (Nat.pow_le_pow_right (n := 2) (by omega) (show f + 1 ≤ 16 by omega))
theorem guess_shl {n f : Nat} (hn : n ≤ 16000) (hf : f ≤ 15) : wrap64 (((n : Int) + 1) * 2 ^ (f + 1)) = (((n + 1) * 2 ^ (f + 1) : Nat) : Int) := by
  have h := guess_small hn hf
  have e : (((n : Int) + 1) * 2 ^ (f + 1)) = (((n + 1) * 2 ^ (f + 1) : Nat) : Int) := by simp
  rw [e]
  generalize (n + 1) * 2 ^ (f + 1) = q at *
  exact IntWalk.wrap64_in _ (by omega)
set_option maxRecDepth 100000 in
set_option maxHeartbeats 1000000 in
theorem Guess_c (v : Value) (L : List (List Cell)) (w : World) (h : Sk w v L) (hok : ∀ M ∈ L, OkL M) (hL : L.length ≤ 1000) (hM : ∀ M ∈ L, M.length ≤ 1000) :
    Calls Tryd.prog 30 #[v] w fun e w' => e = .returned (.int .i64 (guessL L : Nat)) ∧ Only No w w' := by
  obtain ⟨x, hx⟩ : ∃ x, x = guessL L := ⟨_, rfl⟩
  rw [← hx]
  have HX := Lib.hid hx
  clear hx
  have HOk := Lib.hid hok
  obtain ⟨a1, c1, rfl, -⟩ := h.cases
  clear hok
  by_cases h16 : L.length = 16
  · have hne : ((L.length : Int) != 16) = false := by simp; omega
    have H16 := Lib.hid h16
    have HG := Lib.hid (show guessL L = guessGo L 16 0 from if_pos h16)
    clear h16
    go_enter Tryd.func30, Tryd.ntmps30
    go_wp2_with (go_step3)
    have HP := Lib.hid (fun (f : Nat) (hf : f < L.length) (W : World) (v : Value) (hR : RdN 3 W v L[f].length (fl encC L[f])) => Peel_pk v L[f] W hR (HOk.out _ (List.getElem_mem hf)))
    go_loopw [2, 3] (fun v2 v3 wr => ∃ j n : Nat, j ≤ 16 ∧ v3 = .int .i64 ((j : Int) - 1) ∧ v2 = .int .i64 n ∧ guessGo L j n = x ∧ n + 1000 * j ≤ 16000 ∧ Only No w wr) (fun _ v3 _ => (intOf v3 + 1).toNat)
    case atStart => exact ⟨16, 0, by omega, rfl, rfl, by rw [HX.out, HG.out], by omega, Only.refl _ _⟩
    case round =>
      obtain ⟨j, n, hj, rfl, rfl, hgo, hn, hO⟩ := hrel
      by_cases hlt : 1 ≤ j
      · obtain ⟨f, rfl⟩ : ∃ f, j = f + 1 := ⟨j - 1, by omega⟩
        have ef : (((f + 1 : Nat) : Int) - 1) = (f : Int) := by omega
        rw [ef]
        have hfL : f < L.length := by rw [H16.out]; omega
        obtain ⟨-, b1, o1, t1, d1, rfl, hb1, k1, r1⟩ := (h.no hO).at hfL
        have hMl := hM _ (List.getElem_mem hfL)
        have hget := List.getElem?_eq_getElem hfL
        have hpl := pk_len (HOk.out _ (List.getElem_mem hfL))
        have HPk := Lib.hid (HP.out f hfL wr _ r1)
        have HD := Lib.hid (fun h1 => (guessGo_done (n := n) hget h1).symm.trans hgo)
        have HN := Lib.hid (fun h1 => (guessGo_not (n := n) hget h1).symm.trans hgo)
        generalize L[f] = M at *
        obtain ⟨bb, o, p, hF⟩ : ∃ b o p, pk M = (b, o, p) := ⟨_, _, _, rfl⟩
        rw [hF] at HPk HD HN hpl
        simp only at HPk HD HN hpl
        have HOr := Lib.hid hO
        clear hF hgo hO h r1 hget
        cases bb
        · obtain hx1 : (n + 1) * 2 ^ (f + 1) = x := HN.out rfl
          have HX1 := Lib.hid hx1
          clear hx1 HN HD
          go_wp2_with (go_at_call 57; refine HPk.out.mono ?_; rintro e w2 ⟨u1, u2, rfl, hu1, hu2, hO2⟩; obtain ⟨s1, e1, rfl, -⟩ := hu1.cases; obtain ⟨s2, e2, rfl, -⟩ := hu2.cases)
          rw [Exit.noGoto_ret]
          go_ret
          refine ⟨ret_eq (congrArg (Value.int .i64) ?_), HOr.out.trans hO2⟩
          rw [← HX1.out]
          exact guess_shl (by omega) (by omega)
        · have HX1 := Lib.hid (HD.out rfl)
          clear HN HD
          go_wp2_with (go_at_call 57; refine HPk.out.mono ?_; rintro e w2 ⟨u1, u2, rfl, hu1, hu2, hO2⟩; obtain ⟨s1, e1, rfl, -⟩ := hu1.cases; obtain ⟨s2, e2, rfl, -⟩ := hu2.cases; rw [u64s_len] at *; rw [u64s_len] at *)
          go_roundw
          case rel => exact ⟨f, n + (o.length + p.length), by omega, by go_num, by go_num, HX1.out, by omega, HOr.out.trans hO2⟩
          case measure => simp [intOf]
      · obtain rfl : j = 0 := by omega
        have hx0 : n = x := hgo
        subst hx0
        have HOr := Lib.hid hO
        clear hgo hO h
        go_wp2
        rw [Exit.noGoto_ret]
        go_ret
        exact ⟨rfl, HOr.out⟩
  · have hne : ((L.length : Int) != 16) = true := by simp; omega
    obtain rfl : x = 0 := HX.out.trans (if_neg h16)
    clear h16 h
    go_enter Tryd.func30, Tryd.ntmps30
    go_wp2_with (go_step3)
    rw [Exit.noGoto_ret]
    go_ret
    exact ⟨rfl, Only.refl _ _⟩
end Go.Proofs.YtdcinifcpaldiaaDoor

namespace Go.Proofs.YtdcinifcpaldiaaDoor
open Go.RowKit

theorem pk12 {M : List Cell} (h : M.length = 12) : pk M = peelF 4 M := by
  unfold pk
  rw [if_pos (by omega), h]
theorem pk_zL : pk (zL 12) = (true, [], []) := by rw [pk12 (zL_len 12)]; exact peelF_zL 4 12
theorem pk_one {x : Nat} (hx : W64 x) : pk (putC (zL 12) x 1) = (true, [x], []) := by
  rw [pk12 (by rw [putC_len, zL_len])]; exact peelF_one (k := 4) (by omega) hx
theorem pk_other {x : Nat} (hx : W64 x) : pk (putC (zL 12) x (-1)) = (true, [], [x]) := by
  rw [pk12 (by rw [putC_len, zL_len])]; exact peelF_other (k := 4) (by omega) hx
def cnt (M : List Cell) : Nat := (pk M).2.1.length + (pk M).2.2.length
theorem guessGo_sum {L : List (List Cell)} : ∀ (j n : Nat), j ≤ L.length → (∀ M ∈ L, (pk M).1 = true) → guessGo L j n = n + ((L.take j).map cnt).sum
  | 0, n, _, _ => by simp [guessGo]
  | j + 1, n, hj, h => by
    have hM := List.getElem?_eq_getElem (show j < L.length by omega)
    rw [guessGo_done hM (h _ (List.getElem_mem _)), guessGo_sum j _ (by omega) h, List.take_succ_eq_append_getElem (show j < L.length by omega), List.map_append, List.sum_append]
    simp [cnt]
    omega
theorem guess_sum {L : List (List Cell)} (h16 : L.length = 16) (h : ∀ M ∈ L, (pk M).1 = true) : guessL L = (L.map cnt).sum := by
  unfold guessL
  rw [if_pos h16, guessGo_sum 16 0 (by omega) h, List.take_of_length_le (by omega), Nat.zero_add]
theorem one_of16 : ∀ c, c < 16 → ((List.range 16).map fun f => if c = f then 1 else 0).sum = 1 := by decide
theorem none_of16 : ((List.range 16).map fun _ => 0).sum = 0 := by decide
/-- All tables empty but one, in which a single number was put, or taken. -/
theorem guess_one {x c : Nat} {s : Int} (hx : W64 x) (hs : s = 1 ∨ s = -1) (hc : c < 16) {L : List (List Cell)} (h : L = (List.range 16).map fun f => if c = f then putC (zL 12) x s else zL 12) : guessL L = 1 := by
  have hp : pk (putC (zL 12) x s) = (true, [x], []) ∨ pk (putC (zL 12) x s) = (true, [], [x]) := by
    rcases hs with rfl | rfl
    · exact .inl (pk_one hx)
    · exact .inr (pk_other hx)
  have h1 : (pk (putC (zL 12) x s)).1 = true ∧ cnt (putC (zL 12) x s) = 1 := by unfold cnt; rcases hp with e | e <;> rw [e] <;> simp
  have h0 : cnt (zL 12) = 0 := by unfold cnt; rw [pk_zL]; rfl
  rw [guess_sum (by rw [h]; simp) (by
    intro M hM
    rw [h] at hM
    obtain ⟨f, -, rfl⟩ := List.mem_map.1 hM
    split
    · exact h1.1
    · rw [pk_zL]), h, List.map_map, ← one_of16 c hc]
  congr 1
  apply List.map_congr_left
  intro f _
  show cnt (if c = f then _ else _) = _
  split
  · exact h1.2
  · exact h0
theorem guess_zero {L : List (List Cell)} (h : L = (List.range 16).map fun _ => zL 12) : guessL L = 0 := by
  have h0 : cnt (zL 12) = 0 := by unfold cnt; rw [pk_zL]; rfl
  rw [guess_sum (by rw [h]; simp) (by
    intro M hM
    rw [h] at hM
    obtain ⟨f, -, rfl⟩ := List.mem_map.1 hM
    rw [pk_zL]), h, List.map_map, ← none_of16]
  congr 1
theorem makeC_nil (m : Nat) : makeC m [] = zL m := rfl
theorem makeC_one25 (m x : Nat) : makeC m [x] = putC (zL m) x 1 := rfl
theorem onF_one (f x : Nat) : onF f [x] = if floorN x = f then [x] else [] := by
  have := onF_snoc f [] x
  simpa [onF] using this
theorem skL_one (x : Nat) : skL [x] = (List.range 16).map fun f => if floorN x = f then putC (zL 12) x 1 else zL 12 := by
  unfold skL
  apply List.map_congr_left
  intro f _
  rw [onF_one]
  split
  · exact makeC_one25 12 x
  · exact makeC_nil 12
theorem skL_ok {l : List Nat} (hx : ∀ x ∈ l, W64 x) : ∀ M ∈ skL l, OkL M := by
  intro M hM
  obtain ⟨f, -, rfl⟩ := List.mem_map.1 hM
  exact makeC_ok (fun x h => hx x (onF_sub f l x h))
theorem skL_12 {l : List Nat} : ∀ M ∈ skL l, M.length = 12 := by
  intro M hM
  obtain ⟨f, -, rfl⟩ := List.mem_map.1 hM
  exact makeC_len _ _
theorem rd_single (w : World) (x : Nat) (t : TypeId) : Rd (w.alloc (.cells #[.int .u64 (x : Int)] t)) (.slice (some ⟨w.heap.size, 0, none⟩) 1 1) (u64s [x]) := Rd.of_blk (xs := u64s [x]) (Blk.new w _ _) (Nat.le_refl 1)
theorem rd_seven (w : World) (t : TypeId) : Rd (w.alloc (.cells #[.int .u64 7] t)) (.slice (some ⟨w.heap.size, 0, none⟩) 1 1) (u64s [7]) := rd_single w 7 t
set_option maxRecDepth 100000 in
set_option maxHeartbeats 1000000 in
theorem alive25_c (w : World) (hT : Tab w) : Calls Tryd.prog 6 #[] w fun e w' => e = .returned (.bool true) ∧ Only No w w' := by
  have hc0 : cellsN 0 = 12 := by decide
  have hc5 : cellsN 5 = 24 := by decide
  have hx7 : ∀ x ∈ [7], W64 x := by simp [W64]
  have hg : guessL (skL [7]) = 1 := guess_one (hx7 7 (by simp)) (.inl rfl) (floor_lt 7) (skL_one 7)
  have H0 := fun (w : World) => skCells_c 0 w
  have H5 := fun (w : World) => skCells_c 5 w
  rw [hc0] at H0
  rw [hc5] at H5
  have H0' := Lib.hid H0
  have H5' := Lib.hid H5
  have HM0 := Lib.hid (fun (W : World) (hO : Only No w W) => skMake_c (.slice none 0 0) [] W (hT.no hO) (Rd.nil _ _ _) (by simp) (by simp))
  have HM7 := Lib.hid (fun (W : World) (hO : Only No w W) v hR => skMake_c v [7] W (hT.no hO) hR (by simp) hx7)
  have HG := Lib.hid (fun (v : Value) (W : World) (h : Sk W v (skL [7])) => Guess_c v (skL [7]) W h (skL_ok hx7) (by rw [skL_len]; omega) (fun M hM => by rw [skL_12 M hM]; omega))
  rw [hg] at HG
  clear H0 H5 hc0 hc5 hg hx7 hT
  go_enter Tryd.func6, Tryd.ntmps6
  go_wp2_with (first
    | (go_at_call 14; ((with_reducible refine (H0'.out _).mono ?_); rintro e w' ⟨rfl, rfl⟩))
    | (go_at_call 14; ((with_reducible refine (H5'.out _).mono ?_); rintro e w' ⟨rfl, rfl⟩))
    | (go_at_call 13; ((with_reducible refine (HM0.out _ (Only.refl _ _)).mono ?_); rintro e w1 ⟨u1, rfl, hs1, hO1⟩; obtain ⟨ua, uc, rfl, -⟩ := hs1.cases; simp only [skL_len] at *))
    | (go_at_call 13; ((with_reducible refine (HM7.out _ (hO1.alloc _) _ (rd_seven w1 _)).mono ?_); rintro e w2 ⟨u2, rfl, hs2, hO2⟩))
    | (go_at_call 30; ((with_reducible refine (HG.out _ _ hs2).mono ?_); rintro e w3 ⟨rfl, hO3⟩)))
  go_ret
  exact ⟨rfl, ((hO1.alloc _).trans hO2).trans hO3⟩
end Go.Proofs.YtdcinifcpaldiaaDoor
