/- Those that are joined to one, one by one: the iterator. No statement is proved here. -/
import Derived.Test.YtpegbplppfbomaaGraph
namespace Go.Proofs.Ytpegbplppfbomaa
open Go.RowKit Go.Maps Go.Shelf
attribute [local go_sem] Oper.semAt_some

/-- What a round keeps: all that lay ahead of B, and the two boxes from s on. -/
def NearK (B s : Nat) : Nat → Prop := fun k => B ≤ k ∧ k ≠ s ∧ k ≠ s + 1
/-- Those below i that are joined to a. -/
def nears (j : Nat → Nat → Bool) (a i : Nat) : List Nat := (List.range i).filter (j a)
theorem nears_succ (j : Nat → Nat → Bool) (a i : Nat) : nears j a (i + 1) = if j a i = true then nears j a i ++ [i] else nears j a i := by
  unfold nears
  rw [List.range_succ, List.filter_append]
  by_cases h : j a i = true <;> simp [List.filter_cons, h]
theorem nears_prefix (j : Nat → Nat → Bool) (a : Nat) {i n : Nat} (h : i ≤ n) : nears j a i <+: nears j a n := by
  unfold nears
  obtain ⟨d, rfl⟩ := Nat.le.dest h
  rw [List.range_add, List.filter_append]
  exact List.prefix_append _ _
theorem nears_len (j : Nat → Nat → Bool) (a i : Nat) : (nears j a i).length ≤ i := by
  unfold nears
  exact Nat.le_trans (List.length_filter_le _ _) (by simp)
theorem nears_lt {j : Nat → Nat → Bool} {a n x : Nat} (h : x ∈ nears j a n) : x < n ∧ j a x = true := by
  unfold nears at h
  simpa using h

theorem near_c (p : Option Addr) (a : Nat) (w : World) : Calls Try.prog 61 #[.pointer p, .int .u8 (a : Int)] w fun e w' =>
    e = .returned (.func (.func 73) #[] #[.pointer (some ⟨w.heap.size, 0, none⟩), .pointer (some ⟨w.heap.size + 1, 0, none⟩)]) ∧ (w.alloc (.cells #[.pointer p] 67)).alloc (.cells #[.int .u8 (a : Int)] 5) = w' := by
  go_enter Try.func61, Try.ntmps61
  go_wp2
  go_ret
  exact ⟨rfl, rfl⟩

theorem lenW (p : Option Addr) (n : Nat) (j : Nat → Nat → Bool) (B : Nat) (w : World) (hG : IsGraph w B p n j) (m : Nat) :
    CallsIn Fence.wide m Try.prog 39 #[.pointer p] w fun e w' => e = .returned (.int .i64 (n : Int)) ∧ w = w' := callsIn_wide.2 (len_c p n j B w hG)
theorem hasW (p : Option Addr) (n : Nat) (j : Nat → Nat → Bool) (B : Nat) (w : World) (hG : IsGraph w B p n j) (a b : Nat) (ha : a < 256) (hb : b < 256) (m : Nat) :
    CallsIn Fence.wide m Try.prog 41 #[.pointer p, .int .u8 (a : Int), .int .u8 (b : Int)] w fun e w' => e = .returned (.bool (j a b)) ∧ w = w' := callsIn_wide.2 (has_c p n j B w hG a b ha hb)

set_option maxRecDepth 100000 in
set_option maxHeartbeats 1000000 in
theorem near1_in (m l s B : Nat) (p : Option Addr) (a n : Nat) (j : Nat → Nat → Bool) (J Jx : List Nat → World → Prop) (ha : a < 256) (hBs : B ≤ s) (hm : 1 ≤ m)
    (hY : ∀ pre (x : Nat) W, J pre W → pre.length < 16 → pre ++ [x] <+: nears j a n → YieldAt Fence.wide (m - 1) Try.prog l #[.int .u8 (x : Int)] W fun e W' =>
      (e = .returned (.bool true) ∧ J (pre ++ [x]) W' ∧ Only (NearK B s) W W') ∨ (e = .returned (.bool false) ∧ Jx (pre ++ [x]) W'))
    (W : World) (hG : IsGraph W B p n j) (hb1 : Blk W s #[.pointer p] 67) (hb2 : Blk W (s + 1) #[.int .u8 (a : Int)] 5) (h0 : J [] W) :
    CallsIn Fence.wide m Try.prog 73 #[.func (.yield l) #[] #[], .pointer (some ⟨s, 0, none⟩), .pointer (some ⟨s + 1, 0, none⟩)] W fun e W' => (∃ v, e = .returned v) ∧
      ((∃ ys, ys = nears j a n ∧ J ys W') ∨ (∃ pre, pre <+: nears j a n ∧ Jx pre W')) := by
  have c1 := hb1.cell 0 _ rfl
  have c2 := hb2.cell 0 _ rfl
  have hn := hG.n_le
  refine callsIn_of_wp Try.func73 rfl trivial ?_ rfl
  simp only [Try.ntmps73, List.size_toArray, List.length_cons, List.length_nil, Nat.reduceAdd, Nat.reduceSub, Array.replicate_succ, Array.replicate_zero, List.push_toArray, List.append_toArray, List.nil_append, List.cons_append]
  gi_wp2_with (refine ⟨trivial, ?_⟩; gi_at_call 39; refine (lenW p n j B _ hG _).mono ?_; rintro e w' ⟨rfl, rfl⟩)
  gi_loopw [4, 7] (fun v4 v7 wr => ∃ i : Nat, i ≤ n ∧ v7 = .int .i64 i ∧ J (nears j a i) wr ∧ Only (NearK B s) W wr) (fun _ v7 _ => n - (intOf v7).toNat)
  case atStart => exact ⟨0, Nat.zero_le _, rfl, h0, Only.refl _ _⟩
  case round =>
    obtain ⟨i, hi, rfl, hJ, hO⟩ := hrel
    have hG2 := hG.only hO (fun k hk hs => by have := hs.1; omega)
    have d1 := (hO.blk hb1 (fun hs => hs.2.1 rfl)).cell 0 _ rfl
    have d2 := (hO.blk hb2 (fun hs => hs.2.2 rfl)).cell 0 _ rfl
    by_cases hlt : i < n
    · have hs := nears_succ j a i
      have hpl := nears_len j a i
      have hpre := nears_prefix j a (show i + 1 ≤ n by omega)
      have wi : IntKind.u8.wrap (i : Int) = (i : Int) := IntWalk.u8_in _ (by omega)
      cases hj : j a i with
      | true =>
        rw [hj, if_pos rfl] at hs
        rw [hs] at hpre
        obtain ⟨fn, tmps, assign, body, hy, hR⟩ := hY (nears j a i) i wr hJ (by omega) hpre
        have HS := Lib.hid hs
        have HJ := Lib.hid hj
        clear hs hj
        gi_wp2_with (refine ⟨trivial, ?_⟩; gi_at_call 41; refine (hasW p n j B _ hG2 a i ha (by omega) _).mono ?_; rw [HJ.out]; rintro e w' ⟨rfl, rfl⟩)
        refine hR.mono ?_
        rintro e W3 (⟨rfl, hJ3, hk3⟩ | ⟨rfl, hJx3⟩)
        · gi_wp2
          go_roundw
          case rel => exact ⟨i + 1, by omega, by go_num, by rw [HS.out]; exact hJ3, hO.trans hk3⟩
          case measure => simp [intOf]; omega
        · gi_wp2
          refine bodyPost_ret (results_none rfl _ _ _) rfl ?_
          exact ⟨⟨_, rfl⟩, .inr ⟨_, hpre, hJx3⟩⟩
      | false =>
        rw [hj, if_neg (by simp)] at hs
        have HS := Lib.hid hs
        have HJ := Lib.hid hj
        clear hs hj
        gi_wp2_with (refine ⟨trivial, ?_⟩; gi_at_call 41; refine (hasW p n j B _ hG2 a i ha (by omega) _).mono ?_; rw [HJ.out]; rintro e w' ⟨rfl, rfl⟩)
        refine ⟨fun _ h => (by cases h), ?_⟩
        gi_wp2
        go_roundw
        case rel => exact ⟨i + 1, by omega, by go_num, by rw [HS.out]; exact hJ, hO⟩
        case measure => simp [intOf]; omega
    · have : i = n := by omega
      subst this
      gi_wp2
      go_end0
      exact ⟨⟨_, rfl⟩, .inl ⟨_, rfl, hJ⟩⟩
theorem near_stops (m s B : Nat) (p : Option Addr) (a n : Nat) (j : Nat → Nat → Bool) (ha : a < 256) (hBs : B ≤ s) (hm : 1 ≤ m) (w : World)
    (hG : IsGraph w B p n j) (hb1 : Blk w s #[.pointer p] 67) (hb2 : Blk w (s + 1) #[.int .u8 (a : Int)] 5) :
    SeqStopsK Fence.wide m Try.prog 73 #[.pointer (some ⟨s, 0, none⟩), .pointer (some ⟨s + 1, 0, none⟩)] (fun x : Nat => #[Value.int .u8 (x : Int)]) (Only (NearK B s)) (fun ys => ys = nears j a n) (fun pre => pre <+: nears j a n) 16 w :=
  fun l J Jx W hW _ _ hY h0 => near1_in m l s B p a n j J Jx ha hBs hm (fun pre x W h hl _ => hY pre x W h hl) W (hG.no (Only.of_below hW)) ((Only.of_below hW).blk hb1 id) ((Only.of_below hW).blk hb2 id) h0
/-- The same, each one handed over with the fact that it is one of the n. -/
theorem near_stops_lt (m s B : Nat) (p : Option Addr) (a n : Nat) (j : Nat → Nat → Bool) (ha : a < 256) (hBs : B ≤ s) (hm : 1 ≤ m) (w : World)
    (hG : IsGraph w B p n j) (hb1 : Blk w s #[.pointer p] 67) (hb2 : Blk w (s + 1) #[.int .u8 (a : Int)] 5) :
    SeqStopsK Fence.wide m Try.prog 73 #[.pointer (some ⟨s, 0, none⟩), .pointer (some ⟨s + 1, 0, none⟩)] (fun x : { x : Nat // x < n } => #[Value.int .u8 (x.1 : Int)]) (Only (NearK B s)) (fun ys => ys.map (·.1) = nears j a n) (fun pre => pre.map (·.1) <+: nears j a n) 16 w := by
  intro l J Jx W hW _ _ hY h0
  refine (near1_in m l s B p a n j (fun l W => ∃ l' : List { x : Nat // x < n }, l'.map (·.1) = l ∧ J l' W) (fun l W => ∃ l' : List { x : Nat // x < n }, l'.map (·.1) = l ∧ Jx l' W) ha hBs hm ?_ W (hG.no (Only.of_below hW)) ((Only.of_below hW).blk hb1 id) ((Only.of_below hW).blk hb2 id) ⟨[], rfl, h0⟩).mono ?_
  · rintro pre x W1 ⟨l', rfl, hJ⟩ hl hp
    have hx : x < n := (nears_lt (hp.subset (by simp))).1
    obtain ⟨fn, tmps, assign, body, hy, hR⟩ := hY l' ⟨x, hx⟩ W1 hJ (by simpa using hl)
    refine ⟨fn, tmps, assign, body, hy, hR.mono ?_⟩
    rintro e W' (⟨rfl, h1, h2⟩ | ⟨rfl, h1⟩)
    · exact .inl ⟨rfl, ⟨l' ++ [⟨x, hx⟩], by simp, h1⟩, h2⟩
    · exact .inr ⟨rfl, l' ++ [⟨x, hx⟩], by simp, h1⟩
  · rintro e W' ⟨hv, ⟨ys, rfl, l', hl, hJ⟩ | ⟨pre, hp, l', rfl, hJ⟩⟩
    · exact ⟨hv, .inl ⟨l', hl, hJ⟩⟩
    · exact ⟨hv, .inr ⟨l', hp, hJ⟩⟩
theorem nearK_t {B s : Nat} {X Y Z : World} (h : Only (NearK B s) X Y) (k : Only (NearK B s) Y Z) : Only (NearK B s) X Z := h.trans k
theorem nearK_b {B s : Nat} {w : World} (hB : B ≤ w.heap.size) (hs : s + 1 < w.heap.size) (W : World) (l : Nat) (o o' : Obj) (hl : w.heap.size ≤ l) (_ : W.heap[l]? = some o) (_ : o.isCells = false) (_ : o.isWalk = false) : Only (NearK B s) W (W.putObj l o') :=
  ⟨rfl, rfl, rfl, by simp, fun k hk hn => World.putObj_heap_other (fun e => hn ⟨by omega, by omega, by omega⟩)⟩
end Go.Proofs.Ytpegbplppfbomaa
