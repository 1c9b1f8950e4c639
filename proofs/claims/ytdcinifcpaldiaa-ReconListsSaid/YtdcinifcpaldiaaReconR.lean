/- recon, the document's side: ByList, Settle, Same, the chapter's example. No statement is proved here. -/
import Derived.Test.YtdcinifcpaldiaaReconT
import Derived.Deep.RegionLaw
namespace Go.Proofs.Ytdcinifcpaldiaa
open Go.RowKit

/-- 'append(l, xs...)' at a step of a region that draws its order, where xs is read. -/
theorem step_appendRd {P : Program} {W w : World} {ops : Array Oper} {o : Oper} {a : Act} {K : Act → World → Prop} {Q : Exit → Act → World → Prop} {E : Prop} (nd : Nat) (hgd : o.guard = none) (s x : Operand) (t : TypeId)
    (ho : o.op = .call { callee := .builtin .append, args := #[s, x], argTypes := #[t, t] })
    (base : Nat) (e : TypeId) (i : TypeInfo) (z : Value) (size bytes : Nat) (ht : P.underlying t = some (.slice e)) (hi : P.info? e = some i) (hz : i.zero = some z)
    (hsize : i.size = size) (hby : i.bytes = bytes) (hzs : z.cells.size = size) (hsz : 0 < size)
    (v : Value) (n : Nat) (xs : List Value) (hs : a.eval s = v) (hown : W.ownsRow base e size v n xs)
    (sv : Value) (m : Nat) (news : List Value) (hx : a.eval x = sv) (hr : RdN size W sv m news) (h1 : ∀ u ∈ news, u.oneCell' = true)
    (h63 : n + m ≤ maxLen) (hbytes : (n + m) * bytes ≤ 140737488355328) (hbase : base ≤ W.heap.size) (hw : w = W.drewN nd) (N : Nat) (hN : n + m = N) (ys : List Value) (hys : xs ++ news = ys)
    (h : ∀ a' cap' w', w'.ownsRow base e size (.slice a' N cap') N ys → Only (fun k => v.ownBlock = some k) W w' →
      K (a.put o.dst (.slice a' N cap')) w') : if Region.wanted o (yielded ops a.tmps) = true then Oper.wp P o a w K Q else E := by
  subst hN
  subst hys
  have hwd : Region.wanted o (yielded ops a.tmps) = true := by simp [Region.wanted, hgd]
  rw [if_pos hwd]
  have hO : Only No W w := by rw [hw]; exact (Only.refl _ _).drewN nd
  have hown' : w.ownsRow base e size v n xs := hO.row hown (fun _ _ h => h)
  have hr' := hr.no hO
  obtain ⟨v', w', hrun, h2, h3, h4⟩ := run_append_rd (P := P) w base t o.type e i z size bytes ht hi hz hsize hby hzs hsz v n xs hown' sv m news hr' h1 h63 hbytes (Nat.le_trans hbase hO.size)
  unfold Oper.wp execOp
  simp only [ho, resolve, invoke, builtin, Sem.run_bind, Sem.run_pure, Result.andThen_ok, List.map_toArray, List.map_cons, List.map_nil, hs, hx, hrun]
  obtain ⟨a', cap', hv', -⟩ := row_len h2
  subst hv'
  exact h a' cap' w' h2 (hO.of_no.trans ((Only.refl _ w).grown h3 (fun k hk _ => hk)))
/-- A block none of whose cells is a number is no block that a list of numbers lies in. -/
theorem Rd.off {w w' : World} {v : Value} {l : List Nat} {b : Nat} {cs : Array Value} {t : TypeId} (h : Rd w v (u64s l)) (hb : Blk w b cs t) (hn : ∀ (i : Nat) (x : Value), cs[i]? = some x → ∀ n : Int, x ≠ Value.int .u64 n) (hO : Only (· = b) w w') : Rd w' v (u64s l) := by
  obtain ⟨a, cap, rfl, hc, hf⟩ := h
  refine ⟨a, cap, rfl, hc, fun hp => ?_⟩
  obtain ⟨g, off, rfl, hg, hcell⟩ := hf hp
  have hl : 0 < l.length := by simpa using hp
  have hne : g ≠ b := by
    rintro rfl
    have h0 := hcell 0 _ (u64s_get hl)
    simp only [World.cell?] at h0
    unfold Blk at hb
    rw [hb] at h0
    have h0' : cs[off]? = some (.int .u64 (l[0] : Int)) := by simpa using h0
    exact hn _ _ h0' _ rfl
  refine ⟨g, off, rfl, Nat.lt_of_lt_of_le hg hO.size, fun j u hu => ?_⟩
  rw [hO.cell (p := ⟨g, off + j, none⟩) hg hne]
  exact hcell j u hu
set_option maxRecDepth 100000 in
set_option maxHeartbeats 1000000 in
theorem rByList_c (v1 v2 : Value) (l m : List Nat) (w : World) (hR1 : Rd w v1 (u64s l)) (hR2 : Rd w v2 (u64s m)) (hl : l.length ≤ 1000) (hm : m.length ≤ 1000) :
    Calls Try.prog 6 #[v1, v2] w fun e w' => ∃ u1 u2, e = .returned (.agg #[.bool true, u1, u2]) ∧ Rd w' u1 (u64s (sOut l m)) ∧ Rd w' u2 (u64s (sOut m l)) ∧ Only No w w' := by
  have H := Lib.hid (fun (W : World) (hO : Only No w W) => rSides_c v1 v2 l m W (hR1.no hO) (hR2.no hO) (by omega) (by omega))
  obtain ⟨a1, c1, rfl, -⟩ := hR1.cases
  obtain ⟨a2, c2, rfl, -⟩ := hR2.cases
  simp only [u64s_len] at *
  clear hR1 hR2
  go_enter Try.func6, Try.ntmps6
  go_wp2_with (go_at_call 18; refine (H.out _ ((Only.refl No w).alloc _)).mono ?_; rintro e w1 ⟨u1, u2, rfl, r1, r2, hO1⟩; obtain ⟨b1, d1, rfl, -⟩ := r1.cases; obtain ⟨b2, d2, rfl, -⟩ := r2.cases; have hB2 := hO1.blk (Blk.new w _ _) id; simp only [u64s_len] at *; have q0 := hB2.cell 0 _ rfl; have q1 := hB2.cell 1 _ rfl; have q2 := hB2.cell 2 _ rfl; have f0 := hB2.free 0; have f1 := hB2.free 1; have f2 := hB2.free 2)
  generalize hW3 : ((w1.setCell _ _).setCell _ _).setCell _ _ = w3
  have hS : Blk w3 w.heap.size #[.bool true, .slice b1 (sOut l m).length d1, .slice b2 (sOut m l).length d2] 27 := by rw [← hW3]; exact ((hB2.set 0 _).set 1 _).set 2 _
  have hO3 : Only (· = w.heap.size) w1 w3 := by rw [← hW3]; exact (((Only.refl _ _).set1 _ _).set1 _ _).set1 _ _
  have hi : (Try.prog.info? 27).map (·.size) = some 3 := by kernel_rfl
  (try simp only [Exit.inBlock, Exit.then])
  refine bodyPost_ret (results_cell_row rfl _ _ w.heap.size _ _ _ _ rfl hS Try.underlying27 rfl hi) rfl ?_
  have hn : ∀ (i : Nat) (x : Value), (#[Value.bool false, .slice none 0 0, .slice none 0 0] : Array Value)[i]? = some x → ∀ n : Int, x ≠ Value.int .u64 n := by
    intro i x hx n e
    subst e
    match i with
    | 0 => simp at hx
    | 1 => simp at hx
    | 2 => simp at hx
    | i + 3 => simp at hx
  refine ⟨_, _, rfl, ?_, ?_, ?_⟩
  · exact r1.off hB2 hn hO3
  · exact r2.off hB2 hn hO3
  · exact (((Only.refl No w).alloc _).trans hO1).then hO3 (fun i hi e => by exfalso; have e' : i = w.heap.size := e; omega)
theorem sameL_self' (l : List Nat) : sameL l l = true := decide_eq_true rfl
set_option maxRecDepth 100000 in
theorem rSameV_c (u1 u2 x1 x2 : Value) (p q : List Nat) (w : World) (h1 : Rd w u1 (u64s p)) (h2 : Rd w u2 (u64s q)) (g1 : Rd w x1 (u64s p)) (g2 : Rd w x2 (u64s q)) (hp : p.length ≤ 1000) (hq : q.length ≤ 1000) :
    Calls Try.prog 8 #[.agg #[.bool true, u1, u2], .agg #[.bool true, x1, x2]] w fun e w' => e = .returned (.bool true) ∧ Only No w w' := by
  have HA := Lib.hid (fun (W : World) (hO : Only No w W) => Same_c u1 x1 p p W (h1.no hO) (g1.no hO) (by omega) (by omega))
  have HB := Lib.hid (fun (W : World) (hO : Only No w W) => Same_c u2 x2 q q W (h2.no hO) (g2.no hO) (by omega) (by omega))
  simp only [sameL_self'] at HA HB
  obtain ⟨a1, c1, rfl, -⟩ := h1.cases
  obtain ⟨a2, c2, rfl, -⟩ := h2.cases
  obtain ⟨a3, c3, rfl, -⟩ := g1.cases
  obtain ⟨a4, c4, rfl, -⟩ := g2.cases
  simp only [u64s_len] at *
  clear h1 h2 g1 g2
  go_enter Try.func8, Try.ntmps8
  go_wp2_with (first
    | (go_at_call 9; ((with_reducible refine (HA.out _ (((Only.refl No w).alloc _).alloc _)).mono ?_); rintro e w1 ⟨rfl, n1, rfl⟩))
    | (go_at_call 9; ((with_reducible refine (HB.out _ ((((Only.refl No w).alloc _).alloc _).drewN _)).mono ?_); rintro e w1 ⟨rfl, n2, rfl⟩)))
  go_ret
  exact ⟨rfl, (((Only.refl No w).alloc _).alloc _).drewN _⟩
set_option maxRecDepth 100000 in
set_option maxHeartbeats 1000000 in
theorem alive26_c (w : World) : Calls Try.prog 4 #[] w fun e w' => e = .returned (.bool true) ∧ Only No w w' := by
  have hs1 : sOut [1, 2] [2, 3] = [1] := by decide
  have hs2 : sOut [2, 3] [1, 2] = [3] := by decide
  have H1 := fun (v1 v2 : Value) (w : World) h1 h2 => ByList_c v1 v2 [1, 2] [2, 3] w h1 h2 (by simp) (by simp) (by simp [W64]) (by simp [W64])
  rw [hs1, hs2] at H1
  have H1' := Lib.hid H1
  clear H1 hs1 hs2
  go_enter Try.func4, Try.ntmps4
  have b1 : Blk ((w.alloc (.cells #[.int .u64 1, .int .u64 2] 32)).alloc (.cells #[.int .u64 2, .int .u64 3] 32)) w.heap.size (u64s [1, 2]).toArray 32 := (Blk.new w _ _).alloc _
  have b2 : Blk ((w.alloc (.cells #[.int .u64 1, .int .u64 2] 32)).alloc (.cells #[.int .u64 2, .int .u64 3] 32)) (w.heap.size + 1) (u64s [2, 3]).toArray 32 := by
    have := Blk.new (w.alloc (.cells #[.int .u64 1, .int .u64 2] 32)) #[.int .u64 2, .int .u64 3] 32
    simpa [u64s] using this
  have HS := Lib.hid (H1'.out _ _ _ (Rd.of_blk b1 (Nat.le_refl _)) (Rd.of_blk b2 (Nat.le_refl _)))
  clear b1 b2
  go_wp2_with (go_at_call 5; refine HS.out.mono ?_; rintro e w1 ⟨u1, u2, rfl, h1, h2, hO1⟩; obtain ⟨a1, c1, rfl, -⟩ := h1.cases; obtain ⟨a2, c2, rfl, -⟩ := h2.cases; obtain ⟨-, g1, o1, rfl, hl1, k1⟩ := h1.at (by decide); obtain ⟨-, g2, o2, rfl, hl2, k2⟩ := h2.at (by decide); have kk1 := k1 0 _ rfl; have kk2 := k2 0 _ rfl; rw [Nat.add_zero] at kk1 kk2; clear k1 k2)
  go_ret
  exact ⟨rfl, ((((Only.refl _ _).alloc _).alloc _).trans hO1).alloc _⟩
end Go.Proofs.Ytdcinifcpaldiaa
