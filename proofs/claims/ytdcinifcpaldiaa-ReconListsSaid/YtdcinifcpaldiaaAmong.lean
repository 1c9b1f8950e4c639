/- part.among: what tells whether a number is among some. No statement is proved here. -/
import Derived.Test.YtdcinifcpaldiaaSee
import Derived.Test.YtdcinifcpaldiaaMapU
namespace Go.Proofs.Ytdcinifcpaldiaa
open Go.RowKit Go.Maps

theorem u64_keyed : Keyed Try.prog 32 := int_keyed Try.underlying32
theorem int_zero (w : World) : (zeroValue 3).run Try.prog w = .ok (.int .i64 0) w := by kernel_rfl
theorem u64_wf {x : Nat} (h : x < 18446744073709551616) : (Lit.int .u64 (x : Int)).wf = true := by simp [Lit.wf, IntKind.min, IntKind.max, IntKind.signed, IntKind.bits]; omega
theorem u64_ok {x : Nat} (h : x < 18446744073709551616) : OkKey Try.prog 32 (.int .u64 (x : Int)) := by
  refine ⟨.int .u64 (x : Int), ?_⟩
  have := u64_wf h
  simp [keyOf, mapKey, Try.underlying32, this]

/-- Block mb is a map that counts l. -/
def Counts (w : World) (mb : Nat) (l : List Nat) : Prop :=
  ∃ get, MapIs Try.prog 32 w mb get ∧ ∀ x : Nat, x < 18446744073709551616 → (get (.int .u64 (x : Int))).getD (.int .i64 0) = .int .i64 (l.count x : Nat)
theorem Counts.only {S : Nat → Prop} {w w' : World} {mb : Nat} {l : List Nat} (h : Counts w mb l) (ho : Only S w w') (hs : mb < w.heap.size → ¬ S mb) : Counts w' mb l := by
  obtain ⟨get, h1, h2⟩ := h
  exact ⟨get, h1.only ho (hs h1.lt), h2⟩
theorem Counts.lt {w : World} {mb : Nat} {l : List Nat} (h : Counts w mb l) : mb < w.heap.size := by obtain ⟨_, h, _⟩ := h; exact h.lt
theorem Counts.new (w : World) : Counts (w.alloc (.map #[] 0)) w.heap.size [] := ⟨_, MapIs.new w, fun x _ => by simp⟩
theorem Counts.lookup {w : World} {mb : Nat} {l : List Nat} (h : Counts w mb l) {x : Nat} (hx : x < 18446744073709551616) : (Instr.lookup 78 (.map (some mb)) (.int .u64 (x : Int)) false).run Try.prog w = .ok (.int .i64 (l.count x : Nat)) w := by
  obtain ⟨get, h1, h2⟩ := h
  rw [h1.lookup u64_keyed Try.underlying78 int_zero (u64_ok hx), h2 x hx]
theorem count_snoc (l : List Nat) (x y : Nat) : (l ++ [x]).count y = if y = x then l.count x + 1 else l.count y := by
  by_cases h : y = x
  · subst h; rw [if_pos rfl, List.count_append]; simp
  · rw [if_neg h, List.count_append, List.count_singleton]; simp; omega
theorem Counts.add {w : World} {mb : Nat} {l : List Nat} (h : Counts w mb l) {x : Nat} (hx : x < 18446744073709551616) :
    ∃ w', (Instr.mapUpdate 78 (.map (some mb)) (.int .u64 (x : Int)) (.int .i64 ((l.count x : Nat) + 1))).run Try.prog w = .ok () w' ∧ Counts w' mb (l ++ [x]) ∧ Only (· = mb) w w' := by
  obtain ⟨get, h1, h2⟩ := h
  obtain ⟨w', h3, h4, h5⟩ := h1.update u64_keyed Try.underlying78 (u64_ok hx) (.int .i64 ((l.count x : Nat) + 1))
  refine ⟨w', h3, ⟨_, h4, fun y hy => ?_⟩, h5⟩
  rw [count_snoc]
  by_cases e : y = x
  · subst e; rw [putAt_same, if_pos rfl]; simp
  · rw [putAt_other (by simp; omega), if_neg e, h2 y hy]

/-- The closure that among hands back: it tells whether a number is in l; what it looks at lies from block B on. -/
def Tells (w : World) (B : Nat) (f : Value) (l : List Nat) : Prop :=
  ∃ bx mb, f = .func (.func 48) #[] #[.pointer (some ⟨bx, 0, none⟩)] ∧ B ≤ bx ∧ B ≤ mb ∧ Blk w bx #[.map (some mb)] 78 ∧ Counts w mb l
theorem Tells.only {S : Nat → Prop} {w w' : World} {B : Nat} {f : Value} {l : List Nat} (h : Tells w B f l) (ho : Only S w w') (hs : ∀ k, B ≤ k → k < w.heap.size → ¬ S k) : Tells w' B f l := by
  obtain ⟨bx, mb, h1, h2, h3, h4, h5⟩ := h
  exact ⟨bx, mb, h1, h2, h3, ho.blk h4 (hs bx h2 h4.lt), h5.only ho (hs mb h3)⟩
def isIn (x : Nat) (l : List Nat) : Bool := decide (x ∈ l)
theorem isIn_count (x : Nat) (l : List Nat) : isIn x l = decide (0 < ((l.count x : Nat) : Int)) := by
  unfold isIn
  rw [decide_eq_decide]
  rw [← List.count_pos_iff]
  omega
theorem tells_c (bx mb : Nat) (x : Nat) (l : List Nat) (w : World) (hx : W64 x) (hb : Blk w bx #[.map (some mb)] 78) (hc : Counts w mb l) :
    Calls Try.prog 48 #[.int .u64 (x : Int), .pointer (some ⟨bx, 0, none⟩)] w fun e w' => e = .returned (.bool (isIn x l)) ∧ w = w' := by
  have c1 := hb.cell 0 _ rfl
  have h2 := hc.lookup hx.lt
  have HI := Lib.hid (isIn_count x l)
  generalize isIn x l = r at *
  generalize ((l.count x : Nat) : Int) = c at *
  go_enter Try.func48, Try.ntmps48
  go_wp2
  go_ret
  rw [HI.out]
  exact ⟨rfl, rfl⟩

theorem run_makeMapN {n : Int} (w : World) : (Instr.makeMap 78 (some (.int .i64 n))).run Try.prog w = .ok (.map (some w.heap.size)) (w.alloc (.map #[] 0)) := by
  simp [Instr.makeMap, run_underlying Try.underlying78, asInt, asIntOf, Result.andThen]
set_option maxRecDepth 100000 in
set_option maxHeartbeats 1000000 in
theorem among_c (v : Value) (l : List Nat) (w : World) (hR : Rd w v (u64s l)) (hl : l.length ≤ 1000000) (hx : ∀ x ∈ l, W64 x) :
    Calls Try.prog 36 #[v] w fun e w' => ∃ f, e = .returned f ∧ Tells w' w.heap.size f l ∧ Only No w w' := by
  obtain ⟨a, cap, rfl, hcap⟩ := hR.cases
  rw [u64s_len] at hR hcap ⊢
  have hmm := @run_makeMapN
  go_enter Try.func36, Try.ntmps36
  go_wp2
  generalize hW0 : (w.alloc (.map #[] 0)).alloc (.cells #[.map (some w.heap.size)] 78) = W0
  have hO0 : Only No w W0 := by rw [← hW0]; exact ((Only.refl _ _).alloc _).alloc _
  have hb0 : Blk W0 (w.heap.size + 1) #[.map (some w.heap.size)] 78 := by
    rw [← hW0]
    have := Blk.new (w.alloc (.map #[] 0)) #[.map (some w.heap.size)] 78
    simpa using this
  have hc0 : Counts W0 w.heap.size [] := by rw [← hW0]; exact (Counts.new w).only ((Only.refl No _).alloc _) (fun _ h => h)
  go_loopw [5, 11] (fun v5 v11 wr => ∃ i : Nat, i ≤ l.length ∧ v11 = .int .i64 i ∧ Blk wr (w.heap.size + 1) #[.map (some w.heap.size)] 78 ∧ Counts wr w.heap.size (l.take i) ∧ Only No w wr) (fun _ v11 _ => l.length - (intOf v11).toNat)
  case atStart => exact ⟨0, Nat.zero_le _, rfl, hb0, hc0, hO0⟩
  case round =>
    obtain ⟨i, hi, rfl, hb, hc, hO⟩ := hrel
    have c1 := hb.cell 0 _ rfl
    by_cases hlt : i < l.length
    · obtain ⟨-, b, off, rfl, hbl, hcell⟩ := hR.at (by rw [u64s_len]; omega)
      have hc2 := (hO.cell (p := ⟨b, off + i, none⟩) hbl id).trans (hcell i _ (u64s_get hlt))
      have hts : l.take (i + 1) = l.take i ++ [l[i]] := List.take_succ_eq_append_getElem hlt
      have hxx := hx l[i] (List.getElem_mem hlt)
      generalize l[i] = x at *
      have hk := hc.lookup hxx.lt
      obtain ⟨w2, hup, hc3, hO3⟩ := hc.add hxx.lt
      have hcnt : (l.take i).count x ≤ 1000000 := Nat.le_trans List.count_le_length (by simp; omega)
      generalize (l.take i).count x = c at *
      have HS := Lib.hid hts
      have hb3 := hO3.blk hb (by omega)
      have hO4 := hO.then hO3 (fun i hi e => by omega)
      clear hts hcell hc hxx
      go_wp2
      go_roundw
      case rel => exact ⟨i + 1, by omega, by go_num, hb3, by rw [HS.out]; exact hc3, hO4⟩
      case measure => simp [intOf]; omega
    · have : i = l.length := by omega
      subst this
      rw [List.take_length] at hc
      go_wp2
      go_ret
      exact ⟨_, rfl, ⟨_, _, rfl, by omega, by omega, hb, hc⟩, hO⟩
end Go.Proofs.Ytdcinifcpaldiaa
