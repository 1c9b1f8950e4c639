/- slices.Values, AppendSeq, Collect at uint64. No statement is proved here. -/
import Derived.Test.YtdcinifcpaldiaaDoorApp
import Derived.Test.YtdcinifcpaldiaaDoorRange
namespace Go.Proofs.YtdcinifcpaldiaaDoor
open Go.RowKit Go.Maps Go.Shelf
attribute [local go_sem] Oper.semAt_some

theorem from_b {B : Nat} {w : World} (hB : B ≤ w.heap.size) (W : World) (l : Nat) (o o' : Obj) (hl : w.heap.size ≤ l) (_ : W.heap[l]? = some o) (_ : o.isCells = false) (_ : o.isWalk = false) : Only (fun k => B ≤ k) W (W.putObj l o') :=
  ⟨rfl, rfl, rfl, by simp, fun k hk hn => World.putObj_heap_other (fun e => hn (by show B ≤ k; omega))⟩
theorem values_c (a : Option Addr) (n cap : Nat) (w : World) : Calls Tryd.prog 83 #[.slice a n cap] w fun e w' =>
    e = .returned (.func (.func 119) #[] #[.pointer (some ⟨w.heap.size, 0, none⟩)]) ∧ w.alloc (.cells #[.slice a n cap] 22) = w' := by
  go_enter Tryd.func83, Tryd.ntmps83
  go_wp2
  go_ret
  exact ⟨rfl, rfl⟩

theorem take_prefix {α : Type} (l : List α) (i : Nat) : l.take i <+: l := List.take_prefix i l

set_option maxRecDepth 100000 in
set_option maxHeartbeats 1000000 in
theorem values1_in (m l s N : Nat) (v : Value) (zs : List Nat) (J Jx : List Nat → World → Prop) (hm : 1 ≤ m) (hN : zs.length ≤ N) (hb : zs.length ≤ 1000000) (w0 : World) (hR : Rd w0 v (u64s zs)) (hbox : Blk w0 s #[v] 22)
    (hY : ∀ pre (x : Nat) W, J pre W → pre.length < N → pre ++ [x] <+: zs → YieldAt Fence.wide (m - 1) Tryd.prog l #[.int .u64 (x : Int)] W fun e W' =>
      (e = .returned (.bool true) ∧ J (pre ++ [x]) W' ∧ Only (fun k => w0.heap.size ≤ k) W W') ∨ (e = .returned (.bool false) ∧ Jx (pre ++ [x]) W'))
    (W : World) (hO : Only (fun k => w0.heap.size ≤ k) w0 W) (h0 : J [] W) :
    CallsIn Fence.wide m Tryd.prog 119 #[.func (.yield l) #[] #[], .pointer (some ⟨s, 0, none⟩)] W fun e W' => (∃ v, e = .returned v) ∧
      ((∃ ys, ys = zs ∧ J ys W') ∨ (∃ pre, pre <+: zs ∧ Jx pre W')) := by
  have hsb := hbox.lt
  have c1 := (hO.blk hbox (by omega)).cell 0 _ rfl
  obtain ⟨a, cap, rfl, hcap⟩ := hR.cases
  rw [u64s_len] at hbox hR c1 hcap
  refine callsIn_of_wp Tryd.func119 rfl trivial ?_ rfl
  simp only [Tryd.ntmps119, List.size_toArray, List.length_cons, List.length_nil, Nat.reduceAdd, Nat.reduceSub, Array.replicate_succ, Array.replicate_zero, List.push_toArray, List.append_toArray, List.nil_append, List.cons_append]
  gi_wp2
  gi_loopw [4, 7] (fun v4 v7 wr => ∃ i : Nat, i ≤ zs.length ∧ v7 = .int .i64 i ∧ J (zs.take i) wr ∧ Only (fun k => w0.heap.size ≤ k) w0 wr) (fun _ v7 _ => zs.length - (intOf v7).toNat)
  case atStart => exact ⟨0, Nat.zero_le _, rfl, h0, hO⟩
  case round =>
    obtain ⟨i, hi, rfl, hJ, hO2⟩ := hrel
    by_cases hlt : i < zs.length
    · obtain ⟨-, b, off, rfl, hbl, hcell⟩ := hR.at (by rw [u64s_len]; omega)
      have hc := hcell i _ (u64s_get hlt)
      have hc2 := (hO2.cell (p := ⟨b, off + i, none⟩) hbl (by show ¬ w0.heap.size ≤ b; omega)).trans hc
      have hts : zs.take (i + 1) = zs.take i ++ [zs[i]] := List.take_succ_eq_append_getElem hlt
      have hpre := List.take_prefix (i + 1) zs
      rw [hts] at hpre
      obtain ⟨fn, tmps, assign, body, hy, hR3⟩ := hY (zs.take i) zs[i] wr hJ (by simp; omega) hpre
      generalize hx : zs[i] = x at *
      have HX := Lib.hid hx
      have HS := Lib.hid hts
      clear hts hx hc hcell
      gi_wp2
      refine hR3.mono ?_
      rintro e W3 (⟨rfl, hJ3, hk3⟩ | ⟨rfl, hJx3⟩)
      · gi_wp2
        go_roundw
        case rel => exact ⟨i + 1, by omega, by go_num, by rw [HS.out]; exact hJ3, hO2.trans hk3⟩
        case measure => simp [intOf]; omega
      · gi_wp2
        refine bodyPost_ret (results_none rfl _ _ _) rfl ?_
        exact ⟨⟨_, rfl⟩, .inr ⟨_, hpre, hJx3⟩⟩
    · have : i = zs.length := by omega
      subst this
      rw [List.take_length] at hJ
      gi_wp2
      go_end0
      exact ⟨⟨_, rfl⟩, .inl ⟨_, rfl, hJ⟩⟩
theorem values_stops (m s N : Nat) (v : Value) (zs : List Nat) (hm : 1 ≤ m) (hN : zs.length ≤ N) (hb : zs.length ≤ 1000000) (w0 : World) (hR : Rd w0 v (u64s zs)) (hbox : Blk w0 s #[v] 22) (w : World) (hw : Only (fun k => w0.heap.size ≤ k) w0 w) :
    SeqStopsK Fence.wide m Tryd.prog 119 #[.pointer (some ⟨s, 0, none⟩)] (fun x : Nat => #[Value.int .u64 (x : Int)]) (Only (fun k => w0.heap.size ≤ k)) (fun ys => ys = zs) (fun pre => pre <+: zs) N w :=
  fun l J Jx W hW _ _ hY h0 => values1_in m l s N v zs J Jx hm hN hb w0 hR hbox (fun pre x W h hl _ => hY pre x W h hl) W (hw.trans ((Only.of_below hW).mono (fun _ _ h => h.elim))) h0

set_option maxRecDepth 100000 in
set_option maxHeartbeats 1000000 in
/-- slices.AppendSeq of nothing and whatever iterator. -/
theorem appendSeq_c (g : Nat) (lb : Array Value) (S Sp : List Nat → Prop) (N : Nat) (hN : N ≤ 1000000) (eg : ∀ args w, (callFunc g args).run Tryd.prog w = .ok (.enter g args) w) (w : World)
    (hseq : ∀ W, Only No w W → SeqStopsK Fence.wide 8 Tryd.prog g lb (fun x : Nat => #[Value.int .u64 (x : Int)]) (Only (fun k => w.heap.size ≤ k)) S Sp N W) :
    Calls Tryd.prog 142 #[.slice none 0 0, .func (.func g) #[] lb] w fun e w' => ∃ v ys, e = .returned v ∧ S ys ∧ w'.ownsRow w.heap.size 25 1 v ys.length (u64s ys) ∧ Only No w w' := by
  obtain ⟨i0, hi, hz0, hz1, hz2⟩ := info_parts info_u64
  refine calls_marks Tryd.func142 rfl ?_
  simp only [Tryd.ntmps142, List.size_toArray, List.length_cons, List.length_nil, Nat.reduceAdd, Nat.reduceSub, Array.replicate_succ, Array.replicate_zero, List.push_toArray, List.append_toArray, List.nil_append, List.cons_append]
  go_wp2_with fail
  generalize hW0 : w.alloc (.cells #[.slice none 0 0] 22) = W0
  have hsz : W0.heap.size = w.heap.size + 1 := by rw [← hW0]; simp
  have hO0 : Only No w W0 := by rw [← hW0]; exact (Only.refl _ _).alloc _
  have bO : Blk W0 w.heap.size #[.slice none 0 0] 22 := by rw [← hW0]; exact Blk.new w _ _
  refine wp_range (N := N) (gf := g) (lb := lb) rfl eg (hseq W0 hO0) from_t (from_b (by omega)) (fun _ => rfl)
    (fun pre W => ∃ v, Blk W w.heap.size #[v] 22 ∧ Bun W (w.heap.size + 1) [(25, 1, v, pre.length, u64s pre)] ∧ Only No w W ∧ w.heap.size + 1 ≤ W.heap.size)
    (fun _ _ _ => False)
    (fun s X Y hs hc => by obtain ⟨v, h1, h2, h3, h4⟩ := hs; exact ⟨v, hc.blk h1, hc.bun h2, h3.then hc.only (fun k hk hs => by omega), Nat.le_trans h4 hc.only.size⟩)
    (fun _ _ _ _ hs _ => hs)
    ⟨_, bO, (Bun.nil _ _).cons_nil _ _, hO0, by omega⟩
    ?a1 ?assign ?body ?done ?stop
  case assign =>
    intro l x W K hK
    gi_wp2
    exact hK
  case body =>
    rintro l pre x W ⟨v, hv, hBun, hO, hz⟩ hlt
    have hc := hv.cell 0 _ rfl
    obtain ⟨a9, c9, rfl⟩ := bun_is hBun 0 rfl
    have hvlt := hv.lt
    gi_wp2_with (gi_at_builtin; refine wpListIn_append1 rfl (.tmp 8) (.tmp 10) 22 rfl (w.heap.size + 1) 25 i0 (.int .u64 0) 1 8 Tryd.underlying22 hi hz0 hz1 hz2 rfl (by decide) _ hBun 0 _ _ _ rfl rfl [.int .u64 (x : Int)] _ _ rfl rfl rfl (by simp [Value.oneCell']) (by unfold maxLen; omega) (by omega) (by omega) ?_; intro g cap1 w1 hB1 hO1 hK1; have hb1 := hO1.blk hv (by omega); have hc1 := hb1.cell 0 _ rfl; have hf1 := hb1.free 0)
    refine ⟨(hK1.trans (KeepsOthers.setCell _ _ _)).from _, ?_, _, hb1.set 0 _, ?_, (hO.then hO1 (fun i hi e => absurd e (by omega))).setCell _ _ (fun hk => absurd hk (by simp)), Nat.le_trans hz (by have := hO1.size; simpa using this)⟩
    · exact (hO1.mono (T := fun k => w.heap.size ≤ k) (fun i _ e => by show w.heap.size ≤ i; omega)).setCell _ _ (fun _ => Nat.le_refl _)
    · have := hB1.only (w' := w1.setCell ⟨w.heap.size, 0, none⟩ (.slice (some ⟨g, 0, none⟩) (pre.length + 1) cap1)) (S := (· = w.heap.size)) ((Only.refl _ _).set1 0 _) (fun k hk e => by omega)
      simpa [u64s] using this
  case done =>
    rintro D ys W hD hys ⟨v, hv, hBun, hO, hz⟩ hK
    have hc := hv.cell 0 _ rfl
    obtain ⟨a9, c9, rfl⟩ := bun_is hBun 0 rfl
    go_wp2_with fail
    refine leaves_marks (B := w.heap.size + 1) _ _ ⟨⟨D, rfl, by omega, hK, by simp⟩, trivial⟩ (fun W' hC => ?_)
    refine ⟨_, results_tmp rfl _ _ _, _, ys, rfl, hys, ?_, hO.then hC.only (fun k hk hs => absurd hs (by omega))⟩
    exact row_lower (hC.row (hBun.owns 0 _ rfl)) (by omega)
  case stop =>
    rintro D c pre W _ _ h _
    exact h.elim
theorem collect_c (g : Nat) (lb : Array Value) (S Sp : List Nat → Prop) (N : Nat) (hN : N ≤ 1000000) (eg : ∀ args w, (callFunc g args).run Tryd.prog w = .ok (.enter g args) w) (w : World)
    (hseq : ∀ W, Only No w W → SeqStopsK Fence.wide 8 Tryd.prog g lb (fun x : Nat => #[Value.int .u64 (x : Int)]) (Only (fun k => w.heap.size ≤ k)) S Sp N W) :
    Calls Tryd.prog 118 #[.func (.func g) #[] lb] w fun e w' => ∃ v ys, e = .returned v ∧ S ys ∧ w'.ownsRow w.heap.size 25 1 v ys.length (u64s ys) ∧ Only No w w' := by
  have H := Lib.hid (appendSeq_c g lb S Sp N hN eg w hseq)
  clear hseq
  go_enter Tryd.func118, Tryd.ntmps118
  go_wp2_with (go_at_call 142; refine H.out.mono ?_; rintro e w' ⟨v, ys, rfl, h1, h2, h3⟩)
  go_ret
  exact ⟨v, ys, rfl, h1, h2, h3⟩
end Go.Proofs.YtdcinifcpaldiaaDoor
