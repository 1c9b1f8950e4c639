/- wire.Cursor: bytes that come, and the first error. wire.Cursor: take, once, Byte. No statement is proved here. -/
import Derived.Test.YtdcinifcpaldiaaDoorPack
import Derived.Test.YtdcinifcpaldiaaDoorApp

namespace Go.Proofs.YtdcinifcpaldiaaDoor
open Go.RowKit

/-- The cursor in block cb: the error e, the bytes l that come, which lie in block bb. -/
def Cur (w : World) (cb bb e : Nat) (l : List Nat) : Prop :=
  cb ≠ bb ∧ ∃ (a : Option Addr) (cap : Nat), Blk w cb #[.int .i64 (e : Int), .slice a l.length cap] 126 ∧ l.length ≤ cap ∧
    (0 < l.length → ∃ o, a = some ⟨bb, o, none⟩ ∧ bb < w.heap.size ∧ ∀ j u, (u8s l)[j]? = some u → w.cell? ⟨bb, o + j, none⟩ = some u)
theorem Cur.only {S : Nat → Prop} {w w' : World} {cb bb e : Nat} {l : List Nat} (h : Cur w cb bb e l) (ho : Only S w w') (h1 : ¬ S cb) (h2 : ¬ S bb) : Cur w' cb bb e l := by
  obtain ⟨hne, a, cap, hb, hc, hf⟩ := h
  refine ⟨hne, a, cap, ho.blk hb h1, hc, fun hp => ?_⟩
  obtain ⟨o, ha, hl, hcell⟩ := hf hp
  exact ⟨o, ha, Nat.lt_of_lt_of_le hl ho.size, fun j u hu => (ho.cell (p := ⟨bb, o + j, none⟩) hl h2).trans (hcell j u hu)⟩
theorem Cur.no {w w' : World} {cb bb e : Nat} {l : List Nat} (h : Cur w cb bb e l) (ho : Only No w w') : Cur w' cb bb e l := h.only ho id id
theorem Cur.lt {w : World} {cb bb e : Nat} {l : List Nat} (h : Cur w cb bb e l) : cb < w.heap.size := by
  obtain ⟨hne, a, cap, hb, hc, hf⟩ := h
  exact hb.lt
set_option maxRecDepth 100000 in
theorem From_c (v : Value) (l : List Nat) (w : World) (hR : Rd w v (u8s l)) (hl : l.length ≤ 1000000) :
    Calls Tryd.prog 60 #[v] w fun e w' => ∃ cb, e = .returned (.pointer (some ⟨cb, 0, none⟩)) ∧ w.heap.size ≤ cb ∧ (∃ bb, w.heap.size ≤ bb ∧ Cur w' cb bb 0 l) ∧ Only No w w' := by
  obtain ⟨i0, hinf, hz0, hz1, hz2⟩ := info_parts info_u8
  have hRn := hR.sized
  rw [u8s_len] at hRn
  obtain ⟨a, cap, rfl, hcap⟩ := hR.cases
  rw [u8s_len] at *
  have hBE := bun_empty w w.heap.size 5 1 (Nat.le_refl _)
  have hOE := (Only.refl No w).alloc (.cells #[] 5)
  have hRE := hRn.no hOE
  have hzE := hOE.size
  go_enter Tryd.func60, Tryd.ntmps60
  go_wp2_with (at_builtin; refine wpList_appendL rfl (.tmp 3) (.tmp 4) 28 rfl w.heap.size 5 i0 (.int .u8 0) 1 1 Tryd.underlying28 hinf hz0 hz1 hz2 rfl (by decide) _ hBE 0 _ 0 [] rfl rfl _ l.length (u8s l) rfl hRE (by intro u hu; obtain ⟨y, _, rfl⟩ := List.mem_map.1 hu; rfl) (by unfold maxLen; omega) (by omega) hzE ?_; intro a2 c2 w2 hBA0 hOA hOB)
  have hbc := Blk.new w2 #[.int .i64 0, .slice a2 (0 + l.length) c2] 126
  have hO : Only No w w2 := (hOE.of_no (S := fun k => w.heap.size ≤ k)).trans hOA |>.mono (fun k hk hs => by omega)
  have hr := hBA0.owns 0 _ rfl
  have hO3 := (Only.refl No w2).alloc (.cells #[.int .i64 0, .slice a2 (0 + l.length) c2] 126)
  rw [Nat.zero_add] at hbc hO3 hr
  have hz := hO.size
  go_ret
  have hrow : w2.ownsRow w.heap.size 5 1 (.slice a2 l.length c2) l.length (u8s l) := by
    simp only [List.nil_append, List.set] at hr
    exact hr
  refine ⟨_, by simp, hz, ?_, hO.trans hO3⟩
  rcases Nat.eq_zero_or_pos l.length with h0 | hp
  · exact ⟨w2.heap.size + 1, by omega, by omega, a2, c2, hbc, by omega, fun h => by omega⟩
  · obtain ⟨g, cap', hv, hc', hg, hcell⟩ := row_cell hrow hp
    have hgw := (hrow.lt g (by rw [hv]; rfl)).1
    simp at hv
    obtain ⟨rfl, rfl⟩ := hv
    refine ⟨g, hgw, by omega, _, _, hbc, hc', fun _ => ⟨0, rfl, by simp; omega, fun j u hu => ?_⟩⟩
    rw [Nat.zero_add, hO3.cell (p := ⟨g, j, none⟩) hg id]
    exact hcell j u hu
theorem fail_c (cb e e1 : Nat) (v : Value) (w : World) (hb : Blk w cb #[.int .i64 (e : Int), v] 126) (h1 : 1 ≤ e1) :
    Calls Tryd.prog 155 #[.pointer (some ⟨cb, 0, none⟩), .int .i64 (e1 : Int)] w fun r w' => r = .returned (.bool true) ∧ Blk w' cb #[.int .i64 ((if e = 0 then e1 else e : Nat) : Int), v] 126 ∧ Only (· = cb) w w' := by
  have c0 := hb.cell 0 _ rfl
  have f0 := hb.free 0
  by_cases he : e = 0
  · subst he
    rw [if_pos rfl]
    have hs := hb.set 0 (.int .i64 (e1 : Int))
    have h10 : ((e1 : Int) != 0) = true := by simp; omega
    go_enter Tryd.func155, Tryd.ntmps155
    go_wp2
    go_ret
    exact ⟨rfl, by simpa using hs, (Only.refl _ _).set1 _ _⟩
  · rw [if_neg he]
    have h10 : ((e : Int) != 0) = true := by simp; omega
    have h11 : ((e : Int) == 0) = false := by simp; omega
    have HE := Lib.hid he
    clear he
    go_enter Tryd.func155, Tryd.ntmps155
    go_wp2
    go_ret
    exact ⟨rfl, hb, Only.refl _ _⟩
theorem err_c (cb bb e e1 : Nat) (l : List Nat) (w : World) (h : Cur w cb bb e l) (h1 : 1 ≤ e1) :
    Calls Tryd.prog 133 #[.pointer (some ⟨cb, 0, none⟩), .int .i64 (e1 : Int)] w fun r w' => r = .returned (.tuple #[]) ∧ Cur w' cb bb (if e = 0 then e1 else e) [] ∧ Only (· = cb) w w' := by
  obtain ⟨hne, a, cap, hb, hc, hf⟩ := h
  have HF := Lib.hid (fail_c cb e e1 _ w hb h1)
  clear hf
  generalize (if e = 0 then e1 else e) = e2 at *
  go_enter Tryd.func133, Tryd.ntmps133
  go_wp2_with (go_at_call 155; refine HF.out.mono ?_; rintro r w1 ⟨rfl, hb1, hO1⟩; have c1 := hb1.cell 1 _ rfl; have f1 := hb1.free 1)
  go_end0
  have hs := hb1.set 1 (.slice none 0 0)
  exact ⟨rfl, ⟨hne, none, 0, by simpa using hs, by simp, fun h => absurd h (by simp)⟩, hO1.set1 _ _⟩
theorem well_c (cb bb e : Nat) (l : List Nat) (w : World) (h : Cur w cb bb e l) :
    Calls Tryd.prog 98 #[.pointer (some ⟨cb, 0, none⟩)] w fun r w' => r = .returned (.bool ((e : Int) == 0)) ∧ w = w' := by
  obtain ⟨hne, a, cap, hb, hc, hf⟩ := h
  have c0 := hb.cell 0 _ rfl
  clear hf
  go_enter Tryd.func98, Tryd.ntmps98
  go_wp2
  go_ret
  exact ⟨rfl, rfl⟩
theorem Err_c (cb bb e : Nat) (l : List Nat) (w : World) (h : Cur w cb bb e l) :
    Calls Tryd.prog 62 #[.pointer (some ⟨cb, 0, none⟩)] w fun r w' => r = .returned (.int .i64 (e : Int)) ∧ w = w' := by
  obtain ⟨hne, a, cap, hb, hc, hf⟩ := h
  have c0 := hb.cell 0 _ rfl
  clear hf
  go_enter Tryd.func62, Tryd.ntmps62
  go_wp2
  go_ret
  exact ⟨rfl, rfl⟩
theorem Left_c (cb bb e : Nat) (l : List Nat) (w : World) (h : Cur w cb bb e l) :
    Calls Tryd.prog 102 #[.pointer (some ⟨cb, 0, none⟩)] w fun r w' => r = .returned (.int .i64 (l.length : Nat)) ∧ w = w' := by
  obtain ⟨hne, a, cap, hb, hc, hf⟩ := h
  have c0 := hb.cell 1 _ rfl
  clear hf
  go_enter Tryd.func102, Tryd.ntmps102
  go_wp2
  go_ret
  exact ⟨rfl, rfl⟩
theorem Fail_c (cb bb e e1 : Nat) (l : List Nat) (w : World) (h : Cur w cb bb e l) (h1 : 1 ≤ e1) :
    Calls Tryd.prog 100 #[.pointer (some ⟨cb, 0, none⟩), .int .i64 (e1 : Int)] w fun r w' => r = .returned (.tuple #[]) ∧ Cur w' cb bb (if e = 0 then e1 else e) [] ∧ Only (· = cb) w w' := by
  have H := Lib.hid (err_c cb bb e e1 l w h h1)
  generalize (if e = 0 then e1 else e) = e2 at *
  go_enter Tryd.func100, Tryd.ntmps100
  go_wp2_with (go_at_call 133; refine H.out.mono ?_; rintro r w1 ⟨rfl, h1, hO1⟩)
  go_end0
  exact ⟨rfl, h1, hO1⟩
def doneE (e : Nat) (l : List Nat) : Nat := if l = [] then e else 3
theorem Done_c (cb bb e : Nat) (l : List Nat) (w : World) (h : Cur w cb bb e l) :
    Calls Tryd.prog 64 #[.pointer (some ⟨cb, 0, none⟩)] w fun r w' => r = .returned (.int .i64 (doneE e l : Nat)) ∧ w = w' := by
  have H1 := Lib.hid (Left_c cb bb e l w h)
  have H2 := Lib.hid (Err_c cb bb e l w h)
  unfold doneE
  by_cases hl : l = []
  · subst hl
    rw [if_pos rfl]
    go_enter Tryd.func64, Tryd.ntmps64
    go_wp2_with (first | (go_at_call 102; refine H1.out.mono ?_; rintro r w' ⟨rfl, rfl⟩) | (go_at_call 62; refine H2.out.mono ?_; rintro r w' ⟨rfl, rfl⟩))
    go_ret
    exact ⟨rfl, rfl⟩
  · rw [if_neg hl]
    have hp : (0 : Int) < (l.length : Int) := by have := List.length_pos_iff.2 hl; omega
    clear hl
    go_enter Tryd.func64, Tryd.ntmps64
    go_wp2_with (first | (go_at_call 102; refine H1.out.mono ?_; rintro r w' ⟨rfl, rfl⟩) | (go_at_call 62; refine H2.out.mono ?_; rintro r w' ⟨rfl, rfl⟩))
    go_ret
    exact ⟨rfl, rfl⟩
end Go.Proofs.YtdcinifcpaldiaaDoor

namespace Go.Proofs.YtdcinifcpaldiaaDoor
open Go.RowKit

theorem u8s_drop (l : List Nat) (n : Nat) : u8s (l.drop n) = (u8s l).drop n := by simp [u8s, List.map_drop]
theorem u8s_take (l : List Nat) (n : Nat) : u8s (l.take n) = (u8s l).take n := by simp [u8s, List.map_take]
set_option maxRecDepth 100000 in
theorem take_c (cb bb e n : Nat) (l : List Nat) (w : World) (h : Cur w cb bb e l) (h1 : 1 ≤ n) (h2 : n ≤ l.length) (hl : l.length ≤ 1000000) :
    Calls Tryd.prog 99 #[.pointer (some ⟨cb, 0, none⟩), .int .i64 (n : Int)] w fun r w' => ∃ v, r = .returned v ∧ Rd w' v (u8s (l.take n)) ∧ v.ownBlock = some bb ∧ Cur w' cb bb e (l.drop n) ∧ Only (· = cb) w w' := by
  obtain ⟨hne, a, cap, hb, hc, hf⟩ := h
  obtain ⟨o, rfl, hbl, hcell⟩ := hf (by omega)
  have c0 := hb.cell 1 _ rfl
  have f0 := hb.free 1
  have h3 : ¬ (l.length : Int) < (n : Int) := by omega
  have hcl := fun (w' : World) (hO : Only (· = cb) w w') (j : Nat) (u : Value) (hu : (u8s l)[j]? = some u) => (hO.cell (p := ⟨bb, o + j, none⟩) hbl (fun e => hne e.symm)).trans (hcell j u hu)
  have key : ∀ (w' : World) (v : Value), Only (· = cb) w w' → v = .slice (some ⟨bb, o, none⟩) n n → Rd w' v (u8s (l.take n)) := fun w' v hO hv => by
    subst hv
    have e1 : (u8s (l.take n)).length = n := by simp; omega
    refine ⟨_, n, by rw [e1], by omega, fun _ => ⟨bb, o, rfl, Nat.lt_of_lt_of_le hbl hO.size, fun j u hu => hcl w' hO j u ?_⟩⟩
    rw [u8s_take, List.getElem?_take] at hu
    split at hu
    · exact hu
    · cases hu
  have key2 : ∀ (w' : World) (a' : Addr) (c' : Nat), Only (· = cb) w w' → Blk w' cb #[.int .i64 (e : Int), .slice (some a') (l.length - n) c'] 126 → l.length - n ≤ c' → (n < l.length → a' = ⟨bb, o + n, none⟩) → Cur w' cb bb e (l.drop n) := fun w' a' c' hO hB hcc ha => by
    have e1 : (l.drop n).length = l.length - n := by simp
    refine ⟨hne, some a', c', by rw [e1]; exact hB, by omega, fun hp => ⟨o + n, by rw [ha (by omega)], Nat.lt_of_lt_of_le hbl hO.size, fun j u hu => ?_⟩⟩
    rw [u8s_drop, List.getElem?_drop] at hu
    have := hcl w' hO (n + j) u hu
    rwa [← Nat.add_assoc] at this
  have K1 := Lib.hid key
  have K2 := Lib.hid key2
  clear hf hcl key key2 hcell
  have hn0 : (0 : Int) ≤ (n : Int) := by omega
  have hnc : (n : Int) ≤ (cap : Int) := by omega
  go_enter Tryd.func99, Tryd.ntmps99
  go_wp2
  · go_ret
    have hs := hb.set 1 (.slice (some ⟨bb, o, none⟩) (l.length - n) 0)
    have hO := (Only.refl (· = cb) w).set1 1 (.slice (some ⟨bb, o, none⟩) (l.length - n) 0)
    have hcn : cap = n := by assumption
    exact ⟨_, rfl, K1.out _ _ hO rfl, rfl, K2.out _ _ _ hO (by simpa using hs) (by omega) (fun h => by omega), hO⟩
  · go_ret
    have hs := hb.set 1 (.slice (some ⟨bb, o + n, none⟩) (l.length - n) (cap - n))
    have hO := (Only.refl (· = cb) w).set1 1 (.slice (some ⟨bb, o + n, none⟩) (l.length - n) (cap - n))
    exact ⟨_, rfl, K1.out _ _ hO rfl, rfl, K2.out _ _ _ hO (by simpa using hs) (by omega) (fun h => rfl), hO⟩
set_option maxRecDepth 100000 in
theorem take_short (cb bb e n : Nat) (l : List Nat) (w : World) (h : Cur w cb bb e l) (h2 : l.length < n) (hl : n ≤ 1000000) :
    Calls Tryd.prog 99 #[.pointer (some ⟨cb, 0, none⟩), .int .i64 (n : Int)] w fun r w' => r = .returned (.slice none 0 0) ∧ Cur w' cb bb (if e = 0 then 4 else e) [] ∧ Only (· = cb) w w' := by
  have H := Lib.hid (err_c cb bb e 4 l w h (by omega))
  obtain ⟨hne, a, cap, hb, hc, hf⟩ := h
  have c0 := hb.cell 1 _ rfl
  clear hf
  generalize (if e = 0 then 4 else e) = e2 at *
  have h3 : (l.length : Int) < (n : Int) := by omega
  go_enter Tryd.func99, Tryd.ntmps99
  go_wp2_with (go_at_call 133; refine H.out.mono ?_; rintro r w1 ⟨rfl, h1, hO1⟩)
  go_ret
  exact ⟨rfl, h1, hO1⟩
theorem one_c (cb bb e c : Nat) (l : List Nat) (w : World) (h : Cur w cb bb e (c :: l)) (hl : l.length < 1000000) :
    Calls Tryd.prog 135 #[.pointer (some ⟨cb, 0, none⟩)] w fun r w' => r = .returned (.int .u8 (c : Int)) ∧ Cur w' cb bb e l ∧ Only (· = cb) w w' := by
  have H := Lib.hid (take_c cb bb e 1 (c :: l) w h (by omega) (by simp) (by simp; omega))
  go_enter Tryd.func135, Tryd.ntmps135
  go_wp2_with (go_at_call 99; refine H.out.mono ?_; rintro r w1 ⟨v, rfl, hv, -, h1, hO1⟩; obtain ⟨a, cap, rfl, -⟩ := hv.cases; obtain ⟨-, b, o, rfl, hbl, hcell⟩ := hv.at (by simp [u8s]); have hc : w1.cell? ⟨b, o, none⟩ = some (.int .u8 (c : Int)) := hcell 0 _ rfl; clear hcell)
  go_ret
  exact ⟨rfl, h1, hO1⟩
theorem one_short (cb bb e : Nat) (w : World) (h : Cur w cb bb e []) :
    Calls Tryd.prog 135 #[.pointer (some ⟨cb, 0, none⟩)] w fun r w' => r = .returned (.int .u8 0) ∧ Cur w' cb bb (if e = 0 then 4 else e) [] ∧ Only (· = cb) w w' := by
  have H := Lib.hid (take_short cb bb e 1 [] w h (by simp) (by omega))
  generalize (if e = 0 then 4 else e) = e2 at *
  go_enter Tryd.func135, Tryd.ntmps135
  go_wp2_with (go_at_call 99; refine H.out.mono ?_; rintro r w1 ⟨rfl, h1, hO1⟩)
  go_ret
  exact ⟨rfl, h1, hO1⟩
/-- once at a byte, of a cursor with an error: nothing. -/
theorem once8_off (cb bb e : Nat) (l : List Nat) (w : World) (h : Cur w cb bb e l) (he : 1 ≤ e) (g : Value) :
    Calls Tryd.prog 134 #[.pointer (some ⟨cb, 0, none⟩), g] w fun r w' => r = .returned (.int .u8 0) ∧ w = w' := by
  have H := Lib.hid (well_c cb bb e l w h)
  have h10 : ((e : Int) == 0) = false := by simp; omega
  go_enter Tryd.func134, Tryd.ntmps134
  go_wp2_with (go_at_call 98; refine H.out.mono ?_; rintro r w' ⟨rfl, rfl⟩)
  go_ret
  exact ⟨rfl, rfl⟩
theorem once64_off (cb bb e : Nat) (l : List Nat) (w : World) (h : Cur w cb bb e l) (he : 1 ≤ e) (g : Value) :
    Calls Tryd.prog 130 #[.pointer (some ⟨cb, 0, none⟩), g] w fun r w' => r = .returned (.int .u64 0) ∧ w = w' := by
  have H := Lib.hid (well_c cb bb e l w h)
  have h10 : ((e : Int) == 0) = false := by simp; omega
  go_enter Tryd.func130, Tryd.ntmps130
  go_wp2_with (go_at_call 98; refine H.out.mono ?_; rintro r w' ⟨rfl, rfl⟩)
  go_ret
  exact ⟨rfl, rfl⟩
theorem once8_on (cb bb : Nat) (l : List Nat) (w : World) (fm : FuncId) (cm : Array Value) (ent : ∀ (args : Array Value) (W : World), (callFunc fm args).run Tryd.prog W = .ok (.enter fm args) W) (h : Cur w cb bb 0 l) (x e2 : Nat) (l2 : List Nat)
    (hr : Calls Tryd.prog fm (#[.pointer (some ⟨cb, 0, none⟩)] ++ cm) w fun r w' => r = .returned (.int .u8 (x : Int)) ∧ Cur w' cb bb e2 l2 ∧ Only (· = cb) w w') :
    Calls Tryd.prog 134 #[.pointer (some ⟨cb, 0, none⟩), .func (.func fm) #[] cm] w fun r w' => r = .returned (.int .u8 ((if e2 = 0 then x else 0 : Nat) : Int)) ∧ Cur w' cb bb e2 l2 ∧ Only (· = cb) w w' := by
  have H := Lib.hid (well_c cb bb 0 l w h)
  have H2 := Lib.hid hr
  clear hr
  by_cases he : e2 = 0
  · subst he
    rw [if_pos rfl]
    have H3 := Lib.hid (fun W h => well_c cb bb 0 l2 W h)
    go_enter Tryd.func134, Tryd.ntmps134
    go_wp2_with (first
      | (go_at_call 98; ((with_reducible refine H.out.mono ?_); rintro r w' ⟨rfl, rfl⟩))
      | (go_at_call 98; ((with_reducible refine (H3.out w1 h1).mono ?_); rintro r w' ⟨rfl, rfl⟩))
      | (refine H2.out.mono ?_; rintro r w1 ⟨rfl, h1, hO1⟩))
    go_ret
    exact ⟨rfl, h1, hO1⟩
  · rw [if_neg he]
    have H3 := Lib.hid (fun W h => well_c cb bb e2 l2 W h)
    have h10 : ((e2 : Int) == 0) = false := by simp; omega
    clear he
    go_enter Tryd.func134, Tryd.ntmps134
    go_wp2_with (first
      | (go_at_call 98; ((with_reducible refine H.out.mono ?_); rintro r w' ⟨rfl, rfl⟩))
      | (go_at_call 98; ((with_reducible refine (H3.out w1 h1).mono ?_); rintro r w' ⟨rfl, rfl⟩))
      | (refine H2.out.mono ?_; rintro r w1 ⟨rfl, h1, hO1⟩))
    go_ret
    exact ⟨rfl, h1, hO1⟩
theorem once64_on (cb bb : Nat) (l : List Nat) (w : World) (fm : FuncId) (cm : Array Value) (ent : ∀ (args : Array Value) (W : World), (callFunc fm args).run Tryd.prog W = .ok (.enter fm args) W) (h : Cur w cb bb 0 l) (x e2 : Nat) (l2 : List Nat)
    (hr : Calls Tryd.prog fm (#[.pointer (some ⟨cb, 0, none⟩)] ++ cm) w fun r w' => r = .returned (.int .u64 (x : Int)) ∧ Cur w' cb bb e2 l2 ∧ Only (· = cb) w w') :
    Calls Tryd.prog 130 #[.pointer (some ⟨cb, 0, none⟩), .func (.func fm) #[] cm] w fun r w' => r = .returned (.int .u64 ((if e2 = 0 then x else 0 : Nat) : Int)) ∧ Cur w' cb bb e2 l2 ∧ Only (· = cb) w w' := by
  have H := Lib.hid (well_c cb bb 0 l w h)
  have H2 := Lib.hid hr
  clear hr
  by_cases he : e2 = 0
  · subst he
    rw [if_pos rfl]
    have H3 := Lib.hid (fun W h => well_c cb bb 0 l2 W h)
    go_enter Tryd.func130, Tryd.ntmps130
    go_wp2_with (first
      | (go_at_call 98; ((with_reducible refine H.out.mono ?_); rintro r w' ⟨rfl, rfl⟩))
      | (go_at_call 98; ((with_reducible refine (H3.out w1 h1).mono ?_); rintro r w' ⟨rfl, rfl⟩))
      | (refine H2.out.mono ?_; rintro r w1 ⟨rfl, h1, hO1⟩))
    go_ret
    exact ⟨rfl, h1, hO1⟩
  · rw [if_neg he]
    have H3 := Lib.hid (fun W h => well_c cb bb e2 l2 W h)
    have h10 : ((e2 : Int) == 0) = false := by simp; omega
    clear he
    go_enter Tryd.func130, Tryd.ntmps130
    go_wp2_with (first
      | (go_at_call 98; ((with_reducible refine H.out.mono ?_); rintro r w' ⟨rfl, rfl⟩))
      | (go_at_call 98; ((with_reducible refine (H3.out w1 h1).mono ?_); rintro r w' ⟨rfl, rfl⟩))
      | (refine H2.out.mono ?_; rintro r w1 ⟨rfl, h1, hO1⟩))
    go_ret
    exact ⟨rfl, h1, hO1⟩
/-- Byte: what comes of a cursor: the byte, the error, the rest. -/
def byteC (e : Nat) (l : List Nat) : Nat × Nat × List Nat := if e = 0 then (match l with | [] => (0, 4, []) | c :: r => (c, 0, r)) else (0, e, l)
theorem Byte_c (cb bb e : Nat) (l : List Nat) (w : World) (h : Cur w cb bb e l) (hl : l.length ≤ 1000000) :
    Calls Tryd.prog 103 #[.pointer (some ⟨cb, 0, none⟩)] w fun r w' => r = .returned (.int .u8 ((byteC e l).1 : Nat)) ∧ Cur w' cb bb (byteC e l).2.1 (byteC e l).2.2 ∧ Only (· = cb) w w' := by
  have key : Calls Tryd.prog 134 #[.pointer (some ⟨cb, 0, none⟩), .func (.func 135) #[] #[]] w fun r w' => r = .returned (.int .u8 ((byteC e l).1 : Nat)) ∧ Cur w' cb bb (byteC e l).2.1 (byteC e l).2.2 ∧ Only (· = cb) w w' := by
    by_cases he : e = 0
    · subst he
      have ent := enters_of Tryd.func135 (by kernel_rfl) rfl
      rcases l with _ | ⟨c, r⟩
      · exact once8_on cb bb [] w 135 #[] ent h 0 4 [] (one_short cb bb 0 w h)
      · exact once8_on cb bb (c :: r) w 135 #[] ent h c 0 r (one_c cb bb 0 c r w h (by simp at hl; omega))
    · have hb : byteC e l = (0, e, l) := by unfold byteC; rw [if_neg he]
      rw [hb]
      refine (once8_off cb bb e l w h (by omega) _).mono ?_
      rintro r w' ⟨rfl, rfl⟩
      exact ⟨rfl, h, Only.refl _ _⟩
  generalize byteC e l = R at *
  have K := Lib.hid key
  clear key
  go_enter Tryd.func103, Tryd.ntmps103
  go_wp2_with (go_at_call 134; refine K.out.mono ?_; rintro r w1 ⟨rfl, h1, hO1⟩)
  go_ret
  exact ⟨rfl, h1, hO1⟩
end Go.Proofs.YtdcinifcpaldiaaDoor
