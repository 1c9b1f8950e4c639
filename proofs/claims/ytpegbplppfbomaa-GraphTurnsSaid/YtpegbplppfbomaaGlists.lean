/- The graph's lists: Near. No statement is proved here. -/
import Derived.Test.YtpegbplppfbomaaGnear
import Derived.Test.YtpegbplppfbomaaRange
namespace Go.Proofs.Ytpegbplppfbomaa
open Go.RowKit Go.Maps Go.Shelf
attribute [local go_sem] Oper.semAt_some

def u8s (l : List Nat) : List Value := l.map fun (x : Nat) => Value.int .u8 (x : Int)
theorem u8s_get {l : List Nat} {i : Nat} (h : i < l.length) : (u8s l)[i]? = some (.int .u8 (l[i] : Int)) := by simp [u8s, h]
theorem info_u8 : (Try.prog.info? 5).map (fun i => (i.zero, i.size, i.bytes)) = some (some (.int .u8 0), 1, 1) := by kernel_rfl
theorem IsGraph.calm {w w' : World} {B B' : Nat} {p : Option Addr} {n : Nat} {j : Nat → Nat → Bool} (h : IsGraph w B p n j) (hc : Calm B' w w') (hB : B ≤ B') : IsGraph w' B p n j := h.only hc.only (fun k hk hs => by omega)

set_option maxRecDepth 100000 in
set_option maxHeartbeats 2000000 in
theorem Near_c (p : Option Addr) (a n : Nat) (j : Nat → Nat → Bool) (B : Nat) (w : World) (hG : IsGraph w B p n j) (ha : a < 256) (hB : B ≤ w.heap.size) :
    Calls Try.prog 43 #[.pointer p, .int .u8 (a : Int)] w fun e w' => ∃ v, e = .returned v ∧ w'.ownsRow w.heap.size 5 1 v (nears j a n).length (u8s (nears j a n)) ∧ Only No w w' := by
  obtain ⟨i0, hi, hz0, hz1, hz2⟩ := info_parts info_u8
  refine (callsIn_wide (n := 9)).1 ?_
  refine callsIn_of_wp_marks Try.func43 rfl trivial ?_ rfl
  simp only [Try.ntmps43, List.size_toArray, List.length_cons, List.length_nil, Nat.reduceAdd, Nat.reduceSub, Array.replicate_succ, Array.replicate_zero, List.push_toArray, List.append_toArray, List.nil_append, List.cons_append]
  gi_wp2_with (refine ⟨trivial, ?_⟩; gi_at_call 61; refine (callsIn_wide.2 (near_c p a _)).mono ?_; rintro e w' ⟨rfl, rfl⟩)
  generalize hW0 : ((w.alloc (.cells #[.slice none 0 0] 75)).alloc (.cells #[.pointer p] 67)).alloc (.cells #[.int .u8 (a : Int)] 5) = W0
  have hsz : W0.heap.size = w.heap.size + 3 := by rw [← hW0]; simp
  have hO0 : Only No w W0 := by rw [← hW0]; exact (((Only.refl _ _).alloc _).alloc _).alloc _
  have bO : Blk W0 w.heap.size #[.slice none 0 0] 75 := by rw [← hW0]; exact ((Blk.new w _ _).alloc _).alloc _
  have b1 : Blk W0 (w.heap.size + 1) #[.pointer p] 67 := by
    rw [← hW0]
    have := (Blk.new (w.alloc (.cells #[.slice none 0 0] 75)) #[.pointer p] 67).alloc (.cells #[.int .u8 (a : Int)] 5)
    simpa using this
  have b2 : Blk W0 (w.heap.size + 1 + 1) #[.int .u8 (a : Int)] 5 := by
    rw [← hW0]
    have := Blk.new ((w.alloc (.cells #[.slice none 0 0] 75)).alloc (.cells #[.pointer p] 67)) #[.int .u8 (a : Int)] 5
    simpa using this
  refine wpIn_rangeFunc_ownG (N := 16) rfl (by omega) (gf := 73) (lb := #[.pointer (some ⟨w.heap.size + 1, 0, none⟩), .pointer (some ⟨w.heap.size + 1 + 1, 0, none⟩)]) rfl trivial (enters_of Try.func73 (by kernel_rfl) rfl)
    (near_stops (9 - 1) (w.heap.size + 1) B p a n j ha (by omega) (by omega) W0 (hG.no hO0) b1 b2) nearK_t (nearK_b (by omega) (by omega)) (Below.refl _ _) (fun _ => rfl)
    (fun pre W => ∃ v, Blk W w.heap.size #[v] 75 ∧ Bun W (w.heap.size + 3) [(5, 1, v, pre.length, u8s pre)] ∧ Only No w W ∧ w.heap.size + 3 ≤ W.heap.size)
    (fun _ _ _ => False)
    (ownFrom_of fun s X Y hs hc => by obtain ⟨v, h1, h2, h3, h4⟩ := hs; exact ⟨v, hc.blk h1, hc.bun h2, h3.then hc.only (fun k hk hs => by omega), Nat.le_trans h4 hc.only.size⟩)
    (fun _ _ _ _ _ hs _ _ => hs)
    ⟨_, bO, (Bun.nil _ _).cons_nil _ _, hO0, by omega⟩
    (fun x => { tmps := #[.pointer p, .int .u8 (a : Int), undef, undef, .pointer (some ⟨w.heap.size, 0, none⟩), .int .u8 (x : Int), .pointer p, .int .u8 (a : Int), .func (.func 73) #[] #[.pointer (some ⟨w.heap.size + 1, 0, none⟩), .pointer (some ⟨w.heap.size + 1 + 1, 0, none⟩)], .int .u8 (x : Int), undef, undef, undef, undef, undef], defers := [] }) ?assign ?body ?done ?stop
  case assign =>
    intro l x W K hK
    gi_wp2
    exact hK
  case body =>
    rintro l pre x W ⟨v, hv, hBun, hO, hz⟩ hlt
    have hc := hv.cell 0 _ rfl
    obtain ⟨a9, c9, rfl⟩ := bun_is hBun 0 rfl
    have hvlt := hv.lt
    gi_wp2_with (gi_at_builtin; refine wpListIn_append1 rfl (.tmp 10) (.tmp 12) 75 rfl (w.heap.size + 3) 5 i0 (.int .u8 0) 1 1 Try.underlying75 hi hz0 hz1 hz2 rfl (by decide) _ hBun 0 _ _ _ rfl rfl [.int .u8 (x : Int)] _ _ rfl rfl rfl (by simp [Value.oneCell']) (by unfold maxLen; omega) (by omega) (by omega) ?_; intro g cap1 w1 hB1 hO1 hK1; have hb1 := hO1.blk hv (by omega); have hc1 := hb1.cell 0 _ rfl; have hf1 := hb1.free 0)
    refine ⟨(hK1.trans (KeepsOthers.setCell _ _ _)).from _, ?_, _, hb1.set 0 _, ?_, (hO.then hO1 (fun i hi e => absurd e (by omega))).setCell _ _ (fun hk => absurd hk (by simp)), Nat.le_trans hz (by have := hO1.size; simpa using this)⟩
    · exact (hO1.mono (T := NearK B (w.heap.size + 1)) (fun i _ e => ⟨by omega, by omega, by omega⟩)).setCell _ _ (fun _ => ⟨by show B ≤ w.heap.size; omega, by show w.heap.size ≠ w.heap.size + 1; omega, by show w.heap.size ≠ w.heap.size + 1 + 1; omega⟩)
    · have := hB1.only (w' := w1.setCell ⟨w.heap.size, 0, none⟩ (.slice (some ⟨g, 0, none⟩) (pre.length + 1) cap1)) (S := (· = w.heap.size)) ((Only.refl _ _).set1 0 _) (fun k hk e => by omega)
      simpa [u8s] using this
  case done =>
    rintro D ys W hD rfl ⟨v, hv, hBun, hO, hz⟩ hK
    have hc := hv.cell 0 _ rfl
    have hf := hv.free 0
    obtain ⟨a9, c9, rfl⟩ := bun_is hBun 0 rfl
    gi_wp2
    refine leaves_marks (B := w.heap.size + 3) _ _ ⟨⟨D, rfl, by omega, ?_, by simp⟩, trivial⟩ (fun W' hC => ?_)
    · exact (KeepsOthers.setCell _ _ _).same D _ hK rfl
    · have hb2 := hC.blk (hv.set 0 (.slice a9 (nears j a n).length c9))
      have hc2 := hb2.cell 0 _ rfl
      refine ⟨_, by simp [results, Try.results43, go_sem, hc2]; rfl, _, rfl, ?_, (hO.setCell _ _ (fun hk => absurd hk (by simp))).then hC.only (fun k hk hs => absurd hs (by omega))⟩
      have := hBun.only (w' := W.setCell ⟨w.heap.size, 0, none⟩ (.slice a9 (nears j a n).length c9)) (S := (· = w.heap.size)) ((Only.refl _ _).set1 0 _) (fun k hk e => by omega)
      exact row_lower (hC.row (this.owns 0 _ rfl)) (by omega)
  case stop =>
    rintro D c pre W _ _ h _
    exact h.elim
end Go.Proofs.Ytpegbplppfbomaa
