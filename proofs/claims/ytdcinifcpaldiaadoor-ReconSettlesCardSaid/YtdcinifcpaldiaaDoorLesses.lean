/- cell.Less. append at a step of a region that draws its order. The document's Less. No statement is proved here. -/
import Derived.Test.YtdcinifcpaldiaaDoorMakes
import Derived.Test.YtdcinifcpaldiaaDoorRputs
import Derived.StillTailTactics
import Derived.Test.YtdcinifcpaldiaaDoorApp
import Derived.Deep.RegionLaw
import Derived.Test.YtdcinifcpaldiaaDoorBitsX
import Derived.Deep.RegionHeld3

namespace Go.Proofs.YtdcinifcpaldiaaDoor
open Go.RowKit Go.Maps

theorem fl_cell3 {L : List Cell} {i : Nat} (c : Cell) (hi : i < L.length) :
    (((fl encC L).set (i * 3) (.int .i32 c.1)).set (i * 3 + 1) (.int .u64 (c.2.1 : Int))).set (i * 3 + 2) (.int .u64 (c.2.2 : Int)) = fl encC (L.set i c) := by
  rcases hc : L[i] with ⟨n, a, b⟩
  obtain ⟨m, p, q⟩ := c
  have h1 := fl_set (enc := encC) (k := 3) encC_len hi (j := 0) (by omega) (u := .int .i32 m) (y := (m, a, b)) (by rw [hc]; rfl)
  have h2 := fl_set (enc := encC) (k := 3) encC_len (l := L.set i (m, a, b)) (i := i) (by simpa using hi) (j := 1) (by omega) (u := .int .u64 (p : Int)) (y := (m, p, b)) (by simp [encC])
  have h3 := fl_set (enc := encC) (k := 3) encC_len (l := L.set i (m, p, b)) (i := i) (by simpa using hi) (j := 2) (by omega) (u := .int .u64 (q : Int)) (y := (m, p, q)) (by simp [encC])
  rw [Nat.add_zero] at h1
  rw [List.set_set] at h2 h3
  show (((fl encC L).set (i * 3) (.int .i32 m)).set (i * 3 + 1) (.int .u64 (p : Int))).set (i * 3 + 2) (.int .u64 (q : Int)) = _
  rw [h1, h2, h3]
theorem RdN.threeD {w : World} {a : Option Addr} {n cap : Nat} {l : List Cell} (h : RdN 3 w (.slice a n cap) l.length (fl encC l)) {i : Nat} (hi : i < l.length) :
    ∃ b off, a = some ⟨b, off, none⟩ ∧ b < w.heap.size ∧ w.cell? ⟨b, off + i * 3, none⟩ = some (.int .i32 (l.getD i zC).1) ∧ w.cell? ⟨b, off + i * 3 + 1, none⟩ = some (.int .u64 ((l.getD i zC).2.1 : Int)) ∧ w.cell? ⟨b, off + i * 3 + 2, none⟩ = some (.int .u64 ((l.getD i zC).2.2 : Int)) := by
  have e : l.getD i zC = l[i] := by simp [List.getD_eq_getElem?_getD, hi]
  rw [e]
  exact h.three hi
theorem fl_k {T : List Cell} {i : Nat} (hi : i < T.length) : (fl encC T)[i * 3]? = some (.int .i32 (T.getD i zC).1) ∧ (fl encC T)[i * 3 + 1]? = some (.int .u64 ((T.getD i zC).2.1 : Int)) ∧ (fl encC T)[i * 3 + 2]? = some (.int .u64 ((T.getD i zC).2.2 : Int)) := by
  have e : T.getD i zC = T[i] := by simp [List.getD_eq_getElem?_getD, hi]
  have k0 : (fl encC T)[i * 3 + 0]? = _ := fl_get encC_len hi (by omega)
  have k1 : (fl encC T)[i * 3 + 1]? = _ := fl_get encC_len hi (by omega)
  have k2 : (fl encC T)[i * 3 + 2]? = _ := fl_get encC_len hi (by omega)
  rw [Nat.add_zero] at k0
  rw [e]
  exact ⟨k0, k1, k2⟩
/-- What is reckoned behind i rounds. -/
def lessTo (A B : List Cell) (i : Nat) : List Cell := (lessC A B).take i ++ A.drop i
theorem lessTo_len {A B : List Cell} (h : A.length = B.length) (i : Nat) : (lessTo A B i).length = A.length := by
  simp [lessTo, lessC, h]; omega
theorem lessTo_at {A B : List Cell} (h : A.length = B.length) {i : Nat} (hi : i < A.length) : (lessTo A B i).getD i zC = A.getD i zC := by
  have hl : ((lessC A B).take i).length = i := by simp [lessC, h]; omega
  unfold lessTo
  rw [List.getD_eq_getElem?_getD, List.getElem?_append_right (by omega), hl]
  simp [hi]
theorem lessTo_succ {A B : List Cell} (h : A.length = B.length) {i : Nat} (hi : i < A.length) : lessTo A B (i + 1) = (lessTo A B i).set i (subC (A.getD i zC) (B.getD i zC)) := by
  have e1 : A.getD i zC = A[i] := by simp [List.getD_eq_getElem?_getD, hi]
  have e2 : B.getD i zC = B[i]'(by omega) := by simp [List.getD_eq_getElem?_getD, show i < B.length by omega]
  rw [e1, e2]
  have hl : ((lessC A B).take i).length = i := by simp [lessC, h]; omega
  have hll : i < (lessC A B).length := by rw [lessC_len h]; exact hi
  unfold lessTo
  rw [List.set_append_right _ _ (by omega), hl, List.take_succ_eq_append_getElem hll, List.append_assoc]
  congr 1
  rw [Nat.sub_self, List.drop_eq_getElem_cons hi, List.set_cons_zero]
  simp [lessC]
theorem lessTo_zero (A B : List Cell) : lessTo A B 0 = A := by simp [lessTo]
theorem lessTo_full {A B : List Cell} (h : A.length = B.length) : lessTo A B A.length = lessC A B := by
  unfold lessTo
  rw [List.drop_length, List.append_nil, List.take_of_length_le (by rw [lessC_len h]; exact Nat.le_refl _)]
theorem Less_no (a1 a2 : Option Addr) (n1 n2 c1 c2 : Nat) (w : World) (h : n1 ≠ n2) :
    Calls Tryd.prog 56 #[.slice a1 n1 c1, .slice a2 n2 c2] w fun e w' => e = .returned (.tuple #[.slice none 0 0, .int .i64 1]) ∧ w = w' := by
  have hne' : ((n1 : Int) != (n2 : Int)) = true := by simp; omega
  go_enter Tryd.func56, Tryd.ntmps56
  go_wp2
  go_ret2
  exact ⟨rfl, rfl⟩
set_option maxRecDepth 100000 in
set_option maxHeartbeats 4000000 in
theorem Less_c (v1 v2 : Value) (A B : List Cell) (w : World) (hR1 : RdN 3 w v1 A.length (fl encC A)) (hR2 : RdN 3 w v2 B.length (fl encC B)) (hl : A.length ≤ 1000000) (hAB : A.length = B.length) (hA : OkL A) (hB : OkL B) :
    Calls Tryd.prog 56 #[v1, v2] w fun e w' => ∃ u, e = .returned (.tuple #[u, .int .i64 0]) ∧ w'.ownsRow w.heap.size 81 3 u A.length (fl encC (lessC A B)) ∧ Only No w w' := by
  have HC := Lib.hid (Clone_c v1 A w hR1 hl)
  obtain ⟨a1, cap1, rfl, hcap1⟩ := hR1.cases
  obtain ⟨a2, cap2, rfl, hcap2⟩ := hR2.cases
  have HT := Lib.hid (And.intro (lessTo_len hAB) (lessTo_full hAB))
  have HAt := Lib.hid (fun i hi => lessTo_at (i := i) hAB hi)
  have HSu := Lib.hid (fun i hi => lessTo_succ (i := i) hAB hi)
  have h0 := lessTo_zero A B
  rw [← HT.out.2]
  have HF := Lib.hid hAB
  have H2 := Lib.hid (fun (W : World) (hO : Only No w W) (i : Nat) (hi : i < A.length) => (hR2.no hO).threeD (show i < B.length by omega))
  have HOk := Lib.hid (fun (i : Nat) => And.intro (hA.get i) (hB.get i))
  rw [← hAB]
  clear hR1 hR2 hAB hA hB
  generalize lessTo A B = tf at *
  go_enter Tryd.func56, Tryd.ntmps56
  go_wp2_with (go_at_call 89; refine HC.out.mono ?_; rintro e w1 ⟨u, rfl, hr0, hO1⟩)
  have hr1 : w1.ownsRow w.heap.size 81 3 u A.length (fl encC (tf 0)) := by rw [h0]; exact hr0
  clear hr0 HC h0
  go_wp2
  go_loopw [7, 8, 18] (fun _ _ v18 wr => ∃ i : Nat, i ≤ A.length ∧ v18 = .int .i64 i ∧ wr.ownsRow w.heap.size 81 3 u A.length (fl encC (tf i)) ∧ Only No w wr) (fun _ _ v18 _ => A.length - (intOf v18).toNat)
  case atStart => exact ⟨0, by omega, rfl, hr1, hO1⟩
  case round =>
    obtain ⟨i, hi, rfl, hr, hO⟩ := hrel
    by_cases hlt : i < A.length
    · obtain ⟨b2, o2, rfl, hbl2, c20, c21, c22⟩ := H2.out wr hO i hlt
      obtain ⟨g, cap, rfl, -, hgl, -⟩ := row_cell hr (by omega)
      have hbg := hr.lt g rfl
      have hTl := HT.out.1 i
      have hk := fl_k (T := tf i) (i := i) (by rw [hTl]; exact hlt)
      have hat := HAt.out i hlt
      have hsu := HSu.out i hlt
      have hok := HOk.out i
      generalize A.getD i zC = x at *
      generalize B.getD i zC = y at *
      obtain ⟨N, a, b⟩ := x
      obtain ⟨M, c, d⟩ := y
      have hN : IntKind.i32.wrap (N - M) = w32 (N - M) := w32_wrap _
      have hX1 : bits .xor .u64 (a : Int) (c : Int) = ((a ^^^ c : Nat) : Int) := xor_nat hok.1.2.1 hok.2.2.1
      have hX2 : bits .xor .u64 (b : Int) (d : Int) = ((b ^^^ d : Nat) : Int) := xor_nat hok.1.2.2 hok.2.2.2
      have hsu' : tf (i + 1) = (tf i).set i (w32 (N - M), a ^^^ c, b ^^^ d) := hsu
      have hset := fl_cell3 (L := tf i) (i := i) (w32 (N - M), a ^^^ c, b ^^^ d) (by rw [hTl]; exact hlt)
      rw [← hsu'] at hset
      have hset' : (((fl encC (tf i)).set (i * 3) (.int .i32 (w32 (N - M)))).set (i * 3 + 1) (.int .u64 ((a ^^^ c : Nat) : Int))).set (i * 3 + 2) (.int .u64 ((b ^^^ d : Nat) : Int)) = fl encC (tf (i + 1)) := hset
      have HSet := Lib.hid hset'
      have hll := fl_len encC_len (tf i)
      have hL3 : i * 3 + 2 < (fl encC (tf i)).length := by rw [hll, hTl]; omega
      rw [hat] at hk
      obtain ⟨k0, k1, k2⟩ := hk
      have HL3 := Lib.hid (And.intro k0 (And.intro k1 (And.intro k2 hL3)))
      have HV := Lib.hid hr
      have hi0 : (0 : Int) ≤ (i : Int) := by omega
      have him : (i : Int) < (A.length : Int) := by omega
      clear hset hset' hsu hsu' hll hL3 hat hr hok hTl k0 k1 k2
      generalize w32 (N - M) = r0 at *
      generalize a ^^^ c = r1 at *
      generalize b ^^^ d = r2 at *
      generalize tf i = T at *
      generalize hT' : tf (i + 1) = T' at *
      have HT' := Lib.hid hT'
      clear hT'
      have HO := Lib.hid hO
      clear hO
      go_wp2_with fail
      generalize hW3 : wr.alloc (.cells #[.int .i32 M, .int .u64 (c : Int), .int .u64 (d : Int)] 81) = W3
      have hA : Only No wr W3 := by rw [← hW3]; exact (Only.refl _ _).alloc _
      have hbc : Blk W3 wr.heap.size #[.int .i32 M, .int .u64 (c : Int), .int .u64 (d : Int)] 81 := by rw [← hW3]; exact Blk.new _ _ _
      have hvA := hA.row HV.out (fun _ _ h => h)
      have hgr : wr.heap.size ≠ g := by omega
      have hOA : Only (· = g) W3 W3 := Only.refl _ _
      clear hW3 c20 c21 c22
      obtain ⟨c0, f0, -, hgl0⟩ := ownsRow_cell hvA (i * 3) _ HL3.out.1
      have b0 := hbc.cell 0 _ rfl
      go_still_tail 10, (by kernel_rfl)
      change wpList _ _ _ _ _ W3.drew
      have hv1 := ownsRow_set ((Only.refl (· = g) W3).drew.row' hvA) (i * 3) (.int .i32 r0) (by have := HL3.out.2.2.2; omega)
      obtain ⟨c1, f1, -, hgl1⟩ := ownsRow_cell hv1 (i * 3 + 1) _ (by rw [List.getElem?_set_ne (by omega)]; exact HL3.out.2.1)
      have hO1' : Only (· = g) W3 (W3.drew.setCell ⟨g, i * 3, none⟩ (.int .i32 r0)) := ((Only.refl _ W3).drew).set1' _ _
      have b1 := (hO1'.blk hbc hgr).cell 1 _ rfl
      have d0 : W3.drew.cell? ⟨g, i * 3, none⟩ = some (.int .i32 N) := c0
      have e0 : W3.drew.frozen? ⟨g, i * 3, none⟩ = false := f0
      generalize W3.drew = wa at *
      go_wp2_with fail
      generalize wa.setCell ⟨g, i * 3, none⟩ (.int .i32 r0) = w2 at *
      clear c0 f0 d0 e0 b0
      go_still_tail 10, (by kernel_rfl)
      change wpList _ _ _ _ _ w2.drew
      have hv2 := ownsRow_set ((Only.refl (· = g) w2).drew.row' hv1) (i * 3 + 1) (.int .u64 (r1 : Int)) (by rw [List.length_set]; have := HL3.out.2.2.2; omega)
      obtain ⟨c2, f2, -, hgl2⟩ := ownsRow_cell hv2 (i * 3 + 2) _ (by rw [List.getElem?_set_ne (by omega), List.getElem?_set_ne (by omega)]; exact HL3.out.2.2.1)
      have hO2' : Only (· = g) W3 (w2.drew.setCell ⟨g, i * 3 + 1, none⟩ (.int .u64 (r1 : Int))) := (hO1'.drew).set1' _ _
      have b2 := (hO2'.blk hbc hgr).cell 2 _ rfl
      have d1 : w2.drew.cell? ⟨g, i * 3 + 1, none⟩ = some (.int .u64 (a : Int)) := c1
      have e1 : w2.drew.frozen? ⟨g, i * 3 + 1, none⟩ = false := f1
      generalize w2.drew = wb at *
      go_wp2_with fail
      generalize wb.setCell ⟨g, i * 3 + 1, none⟩ (.int .u64 (r1 : Int)) = w4 at *
      clear c1 f1 d1 e1 b1 hv1 hO1' hgl1
      go_still_tail 10, (by kernel_rfl)
      change wpList _ _ _ _ _ w4.drew
      have hv3 := ownsRow_set ((Only.refl (· = g) w4).drew.row' hv2) (i * 3 + 2) (.int .u64 (r2 : Int)) (by rw [List.length_set, List.length_set]; exact HL3.out.2.2.2)
      have hO3' : Only (· = g) W3 (w4.drew.setCell ⟨g, i * 3 + 2, none⟩ (.int .u64 (r2 : Int))) := (hO2'.drew).set1' _ _
      have d2 : w4.drew.cell? ⟨g, i * 3 + 2, none⟩ = some (.int .u64 (b : Int)) := c2
      have e2 : w4.drew.frozen? ⟨g, i * 3 + 2, none⟩ = false := f2
      generalize w4.drew = wc at *
      go_wp2_with fail
      go_roundw
      case rel =>
        refine ⟨i + 1, by omega, by go_num, ?_, (HO.out.trans hA).then hO3' (fun k hk e => by subst e; omega)⟩
        rw [HT'.out, ← HSet.out]
        exact hv3
      case measure => simp [intOf]; omega
    · have : i = A.length := by omega
      subst this
      go_wp2
      go_ret2
      exact ⟨_, rfl, hr, hO⟩
end Go.Proofs.YtdcinifcpaldiaaDoor

namespace Go.Proofs.YtdcinifcpaldiaaDoor
open Go.RowKit Go.Maps

/-- 'l_j = append(l_j, x)' at a step of a region that draws its order: x has been laid in a new block. -/
theorem step_append1 {P : Program} {W w : World} {ops : Array Oper} {o : Oper} {a : Act} {K : Act → World → Prop} {Q : Exit → Act → World → Prop} {E : Prop} (nd : Nat) (hgd : o.guard = none) (s x : Operand) (t : TypeId)
    (ho : o.op = .call { callee := .builtin .append, args := #[s, x], argTypes := #[t, t] })
    (base : Nat) (e : TypeId) (i : TypeInfo) (z : Value) (size bytes : Nat) (ht : P.underlying t = some (.slice e)) (hi : P.info? e = some i) (hz : i.zero = some z)
    (hsize : i.size = size) (hby : i.bytes = bytes) (hzs : z.cells.size = size) (hsz : 0 < size)
    (l : List RowD) (hB : Bun W base l) (j : Nat) (v : Value) (n : Nat) (xs : List Value) (hj : l[j]? = some (e, size, v, n, xs)) (hs : a.eval s = v)
    (news : List Value) (c : Nat) (H : Nat) (hH : W.heap.size = H) (hx : a.eval x = .slice (some ⟨H, 0, none⟩) 1 c) (hl : news.length = size) (h1 : ∀ u ∈ news, u.oneCell' = true)
    (h63 : n + 1 ≤ maxLen) (hbytes : (n + 1) * bytes ≤ 140737488355328) (hbase : base ≤ W.heap.size) (hw : w = (W.alloc (.cells news.toArray e)).drewN nd)
    (h : ∀ g cap w', Bun w' base (l.set j (e, size, .slice (some ⟨g, 0, none⟩) (n + 1) cap, n + 1, xs ++ news)) → Only (fun k => v.ownBlock = some k) W w' →
      K (a.put o.dst (.slice (some ⟨g, 0, none⟩) (n + 1) cap)) w') : if Region.wanted o (yielded ops a.tmps) = true then Oper.wp P o a w K Q else E := by
  obtain rfl : w = (W.drewN nd).alloc (.cells news.toArray e) := hw
  have hB := hB.drewN nd
  have hrow : (W.drewN nd).ownsRow base e size v n xs := hB.owns j _ hj
  refine step_append_lies _ hgd s x t ho base e i z size bytes ht hi hz hsize hby hzs hsz v n xs hs (hrow.alloc _) ⟨H, 0, none⟩ 1 c news hx (by omega) ?_ h1 (by omega) h63 hbytes (by simp; omega) _ rfl ?_
  · intro k u hu
    rw [add_none rfl]
    subst hH
    exact (Blk.new (W.drewN nd) news.toArray e).cell _ _ (by simpa using hu)
  · intro g cap w' hown hgrow hat hlt
    refine h g cap w' ?_ ?_
    · refine (hB.alloc (.cells news.toArray e)).put j (e, size, v, n, xs) _ hj hgrow hown g rfl ?_
      rcases hat with hat | hat
      · exact .inl hat
      · exact .inr (by omega)
    · exact (((Only.refl (fun k => v.ownBlock = some k) W).drewN nd).alloc (.cells news.toArray e)).grown hgrow (fun k hk _ => hk)
end Go.Proofs.YtdcinifcpaldiaaDoor

namespace Go.Proofs.YtdcinifcpaldiaaDoor
open Go.RowKit Go.Maps

def upC (A B : List Cell) (i : Nat) : List Cell := (lessC A B).take i
theorem upC_succ {A B : List Cell} (h : A.length = B.length) {i : Nat} (hi : i < A.length) : upC A B (i + 1) = upC A B i ++ [subC (A.getD i zC) (B.getD i zC)] := by
  have e1 : A.getD i zC = A[i] := by simp [List.getD_eq_getElem?_getD, hi]
  have e2 : B.getD i zC = B[i]'(by omega) := by simp [List.getD_eq_getElem?_getD, show i < B.length by omega]
  have hll : i < (lessC A B).length := by rw [lessC_len h]; exact hi
  unfold upC
  rw [e1, e2, List.take_succ_eq_append_getElem hll]
  simp [lessC]
theorem upC_len {A B : List Cell} (h : A.length = B.length) {i : Nat} (hi : i ≤ A.length) : (upC A B i).length = i := by
  unfold upC
  rw [List.length_take, lessC_len h]; omega
theorem upC_full {A B : List Cell} (h : A.length = B.length) : upC A B A.length = lessC A B := by
  unfold upC
  rw [List.take_of_length_le (by rw [lessC_len h]; exact Nat.le_refl _)]
theorem fl_snocC (L : List Cell) (n : Int) (a b : Nat) : fl encC (L ++ [(n, a, b)]) = fl encC L ++ [.int .i32 n, .int .u64 (a : Int), .int .u64 (b : Int)] := by simp [fl, encC]
end Go.Proofs.YtdcinifcpaldiaaDoor
