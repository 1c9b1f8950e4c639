/- slices.Grow of nil, slices.Concat at []uint64. No statement is proved here. -/
import Derived.Test.YtdcinifcpaldiaaDoorTells0
import Derived.Lib.AppendZeros
namespace Go.Proofs.YtdcinifcpaldiaaDoor
open Go.RowKit Go.Maps

theorem bun_one {w : World} {base e size n : Nat} {v : Value} {xs : List Value} (h : w.ownsRow base e size v n xs) : Bun w base [(e, size, v, n, xs)] := by
  refine ⟨fun i r hr => ?_, fun i j r s b hr hs _ _ => ?_⟩
  · cases i with
    | zero => simp at hr; subst hr; exact h
    | succ i => simp at hr
  · have := (List.getElem?_eq_some_iff.1 hr).1
    have := (List.getElem?_eq_some_iff.1 hs).1
    simp at *
    omega
set_option maxRecDepth 100000 in
theorem Grow_c (n : Nat) (w : World) (hn : n ≤ 1000000) : Calls Tryd.prog 123 #[.slice none 0 0, .int .i64 (n : Int)] w fun e w' => ∃ v, e = .returned v ∧ w'.ownsRow w.heap.size 25 1 v 0 [] ∧ Only No w w' := by
  rcases Nat.eq_zero_or_pos n with rfl | hp
  · go_enter Tryd.func123, Tryd.ntmps123
    go_wp2
    go_ret
    exact ⟨_, rfl, World.ownsRow_nil _ _ _ _, Only.refl _ _⟩
  · obtain ⟨i0, hi, hz0, hz1, hz2⟩ := info_parts info_u64
    have hr := fun ty => Lib.run_append_nil_zeros (P := Tryd.prog) w 22 3 ty 25 i0 _ .i64 .i64 Tryd.underlying22 Tryd.underlying3 hi hz0 n hp (by rw [hz1]; omega) (by omega) (by rw [hz2]; omega)
    have hge := grownCap_ge w n 0 25
    have hle := grownCap_le_maxLen w n 0 25 (by unfold maxLen; omega)
    have hsz : (Builtin.zeroCells (Value.int .u64 0).cells n ++ Builtin.zeroCells (Value.int .u64 0).cells (grownCap w n 0 25 - n)).size = grownCap w n 0 25 := by
      simp [Builtin.zeroCells, Value.cells]; omega
    generalize grownCap w n 0 25 = cap at *
    generalize Builtin.zeroCells (Value.int .u64 0).cells n ++ Builtin.zeroCells (Value.int .u64 0).cells (cap - n) = zs at *
    have hn0 : (0 : Int) < (n : Int) := by omega
    have HR := Lib.hid hr
    clear hr
    go_enter Tryd.func123, Tryd.ntmps123
    go_wp2_with (at_builtin; refine Lib.wpList_append_run _ rfl _ _ _ _ rfl _ _ rfl rfl _ _ (HR.out _) ?_)
    go_ret
    refine ⟨_, rfl, ⟨rfl, .inr ⟨w.heap.size, cap, zs, rfl, Nat.le_refl _, Blk.new w.drew zs 25, by omega, hle, by omega, by simp⟩⟩, ?_⟩
    exact ((Only.refl _ _).drew).alloc _
/-- Lists, one behind the other. -/
def cat (ls : List (List Nat)) : List Nat := ls.flatten
theorem cat_take {ls : List (List Nat)} {i : Nat} (h : i < ls.length) : cat (ls.take (i + 1)) = cat (ls.take i) ++ ls[i] := by
  unfold cat
  rw [List.take_succ_eq_append_getElem h, List.flatten_append]; simp
theorem cat_le {ls : List (List Nat)} (i : Nat) : (cat (ls.take i)).length ≤ (cat ls).length := by
  unfold cat
  conv => rhs; rw [← List.take_append_drop i ls]
  rw [List.flatten_append, List.length_append]; omega
set_option maxRecDepth 100000 in
set_option maxHeartbeats 2000000 in
theorem Concat_c (v : Value) (ss : List Value) (ls : List (List Nat)) (w : World) (hR : Rd w v ss) (hn : ss.length = ls.length) (hS : ∀ i (h : i < ls.length), Rd w (ss[i]'(by omega)) (u64s ls[i])) (hk : ls.length ≤ 1000000) (hl : (cat ls).length ≤ 1000000) :
    Calls Tryd.prog 85 #[v] w fun e w' => ∃ u, e = .returned u ∧ w'.ownsRow w.heap.size 25 1 u (cat ls).length (u64s (cat ls)) ∧ Only No w w' := by
  obtain ⟨i0, hinf, hz0, hz1, hz2⟩ := info_parts info_u64
  obtain ⟨a, cap, rfl, hcap⟩ := hR.cases
  have HG := Lib.hid (Grow_c (cat ls).length w hl)
  have HR := Lib.hid (fun (W : World) (S : Nat → Prop) (h : Only S w W) (hs : ∀ k, k < w.heap.size → ¬ S k) (i : Nat) (hi : i < ls.length) => show ∃ b off s c, a = some ⟨b, off, none⟩ ∧ W.cell? ⟨b, off + i, none⟩ = some (.slice s (ls[i]).length c) ∧ Rd W (.slice s (ls[i]).length c) (u64s ls[i]) by
    obtain ⟨-, b, off, e1, hbl, hcell⟩ := (hR.only h (fun b _ hb => hs b hb)).at (by omega)
    have h2 := (hS i hi).only h (fun b _ hb => hs b hb)
    obtain ⟨s, c, e2, -⟩ := h2.cases
    rw [u64s_len] at e2
    refine ⟨b, off, s, c, e1, ?_, by rw [← e2]; exact h2⟩
    rw [hcell i _ (List.getElem?_eq_getElem (by omega)), e2])
  rw [hn] at *
  clear hR hS
  go_enter Tryd.func85, Tryd.ntmps85
  go_wp2
  go_loopw [3, 11] (fun v3 v11 wr => ∃ i : Nat, i ≤ ls.length ∧ v11 = .int .i64 i ∧ v3 = .int .i64 ((cat (ls.take i)).length : Nat) ∧ wr = w) (fun _ v11 _ => ls.length - (intOf v11).toNat)
  case atStart => exact ⟨0, by omega, rfl, rfl, rfl⟩
  case round =>
    obtain ⟨i, hi, rfl, rfl, hww⟩ := hrel
    obtain rfl : w = wr := hww.symm
    by_cases hlt : i < ls.length
    · obtain ⟨b, off, s, c, rfl, hc, hr⟩ := HR.out w No (Only.refl _ _) (fun _ _ h => h) i hlt
      have hf := cat_take hlt
      have hle := cat_le (ls := ls) (i + 1)
      rw [hf, List.length_append] at hle
      have hfl : ((cat (ls.take (i + 1))).length : Int) = ((cat (ls.take i)).length : Int) + (ls[i].length : Int) := by rw [hf, List.length_append]; simp
      have HF := Lib.hid hfl
      generalize (cat (ls.take i)).length = q at *
      generalize ls[i].length = r at *
      have hi0 : (0 : Int) ≤ (i : Int) := by omega
      have him : (i : Int) < (ls.length : Int) := by omega
      clear hf hfl hr
      go_wp2
      go_roundw
      case rel => exact ⟨i + 1, by omega, by go_num, by rw [HF.out], by trivial⟩
      case measure => simp [intOf]; omega
    · have hin : i = ls.length := by omega
      subst hin
      rw [List.take_length]
      have hlz : ¬ ((cat ls).length : Int) < 0 := by omega
      clear hlt hi
      generalize hN : (cat ls).length = N at *
      have HN := Lib.hid hN
      clear hN
      go_wp2_with (go_at_call 123; refine HG.out.mono ?_; rintro e w1 ⟨u6, rfl, h6, hO6⟩)
      go_loopw [6, 27] (fun v6 v27 wr => ∃ j : Nat, j ≤ ls.length ∧ v27 = .int .i64 j ∧ Bun wr w.heap.size [(25, 1, v6, (cat (ls.take j)).length, u64s (cat (ls.take j)))] ∧ Only (fun k => w.heap.size ≤ k) w wr) (fun _ v27 _ => ls.length - (intOf v27).toNat)
      case atStart => exact ⟨0, by omega, rfl, bun_one h6, hO6.of_no⟩
      case round =>
        obtain ⟨j, hj, rfl, hB, hO⟩ := hrel
        obtain ⟨ya, yc, rfl⟩ := bun_is hB 0 rfl
        by_cases hlt : j < ls.length
        · obtain ⟨b, off, s, c, rfl, hc, hr⟩ := HR.out wr _ hO (fun k hk h => by omega) j hlt
          have hf := cat_take hlt
          have hle := cat_le (ls := ls) (j + 1)
          rw [hf, List.length_append, HN.out] at hle
          have HF := Lib.hid hf
          generalize cat (ls.take j) = q at *
          generalize ls[j] = r at *
          have hrn := hr.sized
          rw [u64s_len] at hrn
          have hj0 : (0 : Int) ≤ (j : Int) := by omega
          have hjm : (j : Int) < (ls.length : Int) := by omega
          have hz := hO.size
          clear hf hr
          go_wp2_with (at_builtin; refine wpList_appendL rfl (.tmp 31) (.tmp 32) 22 rfl w.heap.size 25 i0 (.int .u64 0) 1 8 Tryd.underlying22 hinf hz0 hz1 hz2 rfl (by decide) _ hB 0 _ _ _ rfl rfl _ r.length (u64s r) rfl hrn (by intro u hu; obtain ⟨y, _, rfl⟩ := List.mem_map.1 hu; rfl) (by unfold maxLen; omega) (by omega) hz ?_; intro a2 c2 w2 hBA hOA _)
          go_roundw
          case rel =>
            refine ⟨j + 1, by omega, by go_num, ?_, hO.trans hOA⟩
            rw [HF.out, List.length_append]
            simpa [List.set, u64s] using hBA
          case measure => simp [intOf]; omega
        · have hjn : j = ls.length := by omega
          subst hjn
          rw [List.take_length] at hB
          have hrow : wr.ownsRow w.heap.size 25 1 (.slice ya (cat ls).length yc) (cat ls).length (u64s (cat ls)) := hB.owns 0 _ rfl
          have hN2 := HN.out
          subst hN2
          have HRW := Lib.hid hrow
          clear hrow hB hlt hj
          go_wp2
          go_ret
          exact ⟨_, rfl, HRW.out, hO.mono (fun k hk e => by exfalso; omega)⟩
end Go.Proofs.YtdcinifcpaldiaaDoor
