/- wire.Cursor: bytes that come, and the first error. No statement is proved here. -/
import Derived.Test.YteepicoihifjlaaPack
import Derived.Test.YteepicoihifjlaaApp
namespace Go.Proofs.Yteepicoihifjlaa
open Go.RowKit

/-- The cursor in block cb: the error e, the bytes l that come, which lie in block bb. -/
def Cur (w : World) (cb bb e : Nat) (l : List Nat) : Prop :=
  cb ≠ bb ∧ ∃ (a : Option Addr) (cap : Nat), Blk w cb #[.int .i64 (e : Int), .slice a l.length cap] 151 ∧ l.length ≤ cap ∧
    (0 < l.length → ∃ o, a = some ⟨bb, o, none⟩ ∧ bb < w.heap.size ∧ ∀ j u, (u8s l)[j]? = some u → w.cell? ⟨bb, o + j, none⟩ = some u)
theorem Cur.only {S : Nat → Prop} {w w' : World} {cb bb e : Nat} {l : List Nat} (h : Cur w cb bb e l) (ho : Only S w w') (h1 : ¬ S cb) (h2 : ¬ S bb) : Cur w' cb bb e l := by
  obtain ⟨hne, a, cap, hb, hc, hf⟩ := h
  refine ⟨hne, a, cap, ho.blk hb h1, hc, fun hp => ?_⟩
  obtain ⟨o, ha, hl, hcell⟩ := hf hp
  exact ⟨o, ha, Nat.lt_of_lt_of_le hl ho.size, fun j u hu => (ho.cell (p := ⟨bb, o + j, none⟩) hl h2).trans (hcell j u hu)⟩
theorem Cur.no {w w' : World} {cb bb e : Nat} {l : List Nat} (h : Cur w cb bb e l) (ho : Only No w w') : Cur w' cb bb e l := h.only ho id id
theorem Cur.lt {w : World} {cb bb e : Nat} {l : List Nat} (h : Cur w cb bb e l) : cb < w.heap.size := by
  obtain ⟨hne, a, cap, hb, hc, hf⟩ := h
  exact hb.lt
set_option maxRecDepth 100000 in
theorem From_c (v : Value) (l : List Nat) (w : World) (hR : Rd w v (u8s l)) (hl : l.length ≤ 1000000) :
    Calls Try.prog 93 #[v] w fun e w' => ∃ cb, e = .returned (.pointer (some ⟨cb, 0, none⟩)) ∧ w.heap.size ≤ cb ∧ (∃ bb, w.heap.size ≤ bb ∧ Cur w' cb bb 0 l) ∧ Only No w w' := by
  obtain ⟨i0, hinf, hz0, hz1, hz2⟩ := info_parts info_u8
  have hRn := hR.sized
  rw [u8s_len] at hRn
  obtain ⟨a, cap, rfl, hcap⟩ := hR.cases
  rw [u8s_len] at *
  have hBE := bun_empty w w.heap.size 5 1 (Nat.le_refl _)
  have hOE := (Only.refl No w).alloc (.cells #[] 5)
  have hRE := hRn.no hOE
  have hzE := hOE.size
  go_enter Try.func93, Try.ntmps93
  go_wp2_with (at_builtin; refine wpList_appendL rfl (.tmp 3) (.tmp 4) 70 rfl w.heap.size 5 i0 (.int .u8 0) 1 1 Try.underlying70 hinf hz0 hz1 hz2 rfl (by decide) _ hBE 0 _ 0 [] rfl rfl _ l.length (u8s l) rfl hRE (by intro u hu; obtain ⟨y, _, rfl⟩ := List.mem_map.1 hu; rfl) (by unfold maxLen; omega) (by omega) hzE ?_; intro a2 c2 w2 hBA0 hOA hOB)
  have hbc := Blk.new w2 #[.int .i64 0, .slice a2 (0 + l.length) c2] 151
  have hO : Only No w w2 := (hOE.of_no (S := fun k => w.heap.size ≤ k)).trans hOA |>.mono (fun k hk hs => by omega)
  have hr := hBA0.owns 0 _ rfl
  have hO3 := (Only.refl No w2).alloc (.cells #[.int .i64 0, .slice a2 (0 + l.length) c2] 151)
  rw [Nat.zero_add] at hbc hO3 hr
  have hz := hO.size
  go_ret
  have hrow : w2.ownsRow w.heap.size 5 1 (.slice a2 l.length c2) l.length (u8s l) := by
    simp only [List.nil_append, List.set] at hr
    exact hr
  refine ⟨_, by simp, hz, ?_, hO.trans hO3⟩
  rcases Nat.eq_zero_or_pos l.length with h0 | hp
  · exact ⟨w2.heap.size + 1, by omega, by omega, a2, c2, hbc, by omega, fun h => by omega⟩
  · obtain ⟨g, cap', hv, hc', hg, hcell⟩ := row_cell hrow hp
    have hgw := (hrow.lt g (by rw [hv]; rfl)).1
    simp at hv
    obtain ⟨rfl, rfl⟩ := hv
    refine ⟨g, hgw, by omega, _, _, hbc, hc', fun _ => ⟨0, rfl, by simp; omega, fun j u hu => ?_⟩⟩
    rw [Nat.zero_add, hO3.cell (p := ⟨g, j, none⟩) hg id]
    exact hcell j u hu
theorem fail_c (cb e e1 : Nat) (v : Value) (w : World) (hb : Blk w cb #[.int .i64 (e : Int), v] 151) (h1 : 1 ≤ e1) :
    Calls Try.prog 157 #[.pointer (some ⟨cb, 0, none⟩), .int .i64 (e1 : Int)] w fun r w' => r = .returned (.bool true) ∧ Blk w' cb #[.int .i64 ((if e = 0 then e1 else e : Nat) : Int), v] 151 ∧ Only (· = cb) w w' := by
  have c0 := hb.cell 0 _ rfl
  have f0 := hb.free 0
  by_cases he : e = 0
  · subst he
    rw [if_pos rfl]
    have hs := hb.set 0 (.int .i64 (e1 : Int))
    have h10 : ((e1 : Int) != 0) = true := by simp; omega
    go_enter Try.func157, Try.ntmps157
    go_wp2
    go_ret
    exact ⟨rfl, by simpa using hs, (Only.refl _ _).set1 _ _⟩
  · rw [if_neg he]
    have h10 : ((e : Int) != 0) = true := by simp; omega
    have h11 : ((e : Int) == 0) = false := by simp; omega
    have HE := Lib.hid he
    clear he
    go_enter Try.func157, Try.ntmps157
    go_wp2
    go_ret
    exact ⟨rfl, hb, Only.refl _ _⟩
theorem err_c (cb bb e e1 : Nat) (l : List Nat) (w : World) (h : Cur w cb bb e l) (h1 : 1 ≤ e1) :
    Calls Try.prog 133 #[.pointer (some ⟨cb, 0, none⟩), .int .i64 (e1 : Int)] w fun r w' => r = .returned (.tuple #[]) ∧ Cur w' cb bb (if e = 0 then e1 else e) [] ∧ Only (· = cb) w w' := by
  obtain ⟨hne, a, cap, hb, hc, hf⟩ := h
  have HF := Lib.hid (fail_c cb e e1 _ w hb h1)
  clear hf
  generalize (if e = 0 then e1 else e) = e2 at *
  go_enter Try.func133, Try.ntmps133
  go_wp2_with (go_at_call 157; refine HF.out.mono ?_; rintro r w1 ⟨rfl, hb1, hO1⟩; have c1 := hb1.cell 1 _ rfl; have f1 := hb1.free 1)
  go_end0
  have hs := hb1.set 1 (.slice none 0 0)
  exact ⟨rfl, ⟨hne, none, 0, by simpa using hs, by simp, fun h => absurd h (by simp)⟩, hO1.set1 _ _⟩
theorem well_c (cb bb e : Nat) (l : List Nat) (w : World) (h : Cur w cb bb e l) :
    Calls Try.prog 156 #[.pointer (some ⟨cb, 0, none⟩)] w fun r w' => r = .returned (.bool ((e : Int) == 0)) ∧ w = w' := by
  obtain ⟨hne, a, cap, hb, hc, hf⟩ := h
  have c0 := hb.cell 0 _ rfl
  clear hf
  go_enter Try.func156, Try.ntmps156
  go_wp2
  go_ret
  exact ⟨rfl, rfl⟩
theorem Err_c (cb bb e : Nat) (l : List Nat) (w : World) (h : Cur w cb bb e l) :
    Calls Try.prog 95 #[.pointer (some ⟨cb, 0, none⟩)] w fun r w' => r = .returned (.int .i64 (e : Int)) ∧ w = w' := by
  obtain ⟨hne, a, cap, hb, hc, hf⟩ := h
  have c0 := hb.cell 0 _ rfl
  clear hf
  go_enter Try.func95, Try.ntmps95
  go_wp2
  go_ret
  exact ⟨rfl, rfl⟩
theorem Left_c (cb bb e : Nat) (l : List Nat) (w : World) (h : Cur w cb bb e l) :
    Calls Try.prog 96 #[.pointer (some ⟨cb, 0, none⟩)] w fun r w' => r = .returned (.int .i64 (l.length : Nat)) ∧ w = w' := by
  obtain ⟨hne, a, cap, hb, hc, hf⟩ := h
  have c0 := hb.cell 1 _ rfl
  clear hf
  go_enter Try.func96, Try.ntmps96
  go_wp2
  go_ret
  exact ⟨rfl, rfl⟩
theorem Fail_c (cb bb e e1 : Nat) (l : List Nat) (w : World) (h : Cur w cb bb e l) (h1 : 1 ≤ e1) :
    Calls Try.prog 97 #[.pointer (some ⟨cb, 0, none⟩), .int .i64 (e1 : Int)] w fun r w' => r = .returned (.tuple #[]) ∧ Cur w' cb bb (if e = 0 then e1 else e) [] ∧ Only (· = cb) w w' := by
  have H := Lib.hid (err_c cb bb e e1 l w h h1)
  generalize (if e = 0 then e1 else e) = e2 at *
  go_enter Try.func97, Try.ntmps97
  go_wp2_with (go_at_call 133; refine H.out.mono ?_; rintro r w1 ⟨rfl, h1, hO1⟩)
  go_end0
  exact ⟨rfl, h1, hO1⟩
def doneE (e : Nat) (l : List Nat) : Nat := if l = [] then e else 3
theorem Done_c (cb bb e : Nat) (l : List Nat) (w : World) (h : Cur w cb bb e l) :
    Calls Try.prog 100 #[.pointer (some ⟨cb, 0, none⟩)] w fun r w' => r = .returned (.int .i64 (doneE e l : Nat)) ∧ w = w' := by
  have H1 := Lib.hid (Left_c cb bb e l w h)
  have H2 := Lib.hid (Err_c cb bb e l w h)
  unfold doneE
  by_cases hl : l = []
  · subst hl
    rw [if_pos rfl]
    go_enter Try.func100, Try.ntmps100
    go_wp2_with (first | (go_at_call 96; refine H1.out.mono ?_; rintro r w' ⟨rfl, rfl⟩) | (go_at_call 95; refine H2.out.mono ?_; rintro r w' ⟨rfl, rfl⟩))
    go_ret
    exact ⟨rfl, rfl⟩
  · rw [if_neg hl]
    have hp : (0 : Int) < (l.length : Int) := by have := List.length_pos_iff.2 hl; omega
    clear hl
    go_enter Try.func100, Try.ntmps100
    go_wp2_with (first | (go_at_call 96; refine H1.out.mono ?_; rintro r w' ⟨rfl, rfl⟩) | (go_at_call 95; refine H2.out.mono ?_; rintro r w' ⟨rfl, rfl⟩))
    go_ret
    exact ⟨rfl, rfl⟩
end Go.Proofs.Yteepicoihifjlaa
