/- wire.Cursor: a number that comes. No statement is proved here. -/
import Derived.Test.YtdcinifcpaldiaaDoorWire
import Derived.Test.YtdcinifcpaldiaaDoorUnvar
namespace Go.Proofs.YtdcinifcpaldiaaDoor
open Go.RowKit

theorem Cur.rd {w : World} {cb bb e : Nat} {l : List Nat} (h : Cur w cb bb e l) : ∃ a cap, Blk w cb #[.int .i64 (e : Int), .slice a l.length cap] 126 ∧ Rd w (.slice a l.length cap) (u8s l) := by
  obtain ⟨hne, a, cap, hb, hc, hf⟩ := h
  refine ⟨a, cap, hb, a, cap, by rw [u8s_len], by rw [u8s_len]; exact hc, fun hp => ?_⟩
  obtain ⟨o, ha, hl, hcell⟩ := hf (by rw [u8s_len] at hp; exact hp)
  exact ⟨bb, o, ha, hl, hcell⟩
theorem unvar_ok {l : List Nat} {x n : Nat} (hb : ∀ c ∈ l, c < 256) (h : unvar l = (x, n, 0)) : 1 ≤ n ∧ n ≤ l.length ∧ W64 x := by
  obtain ⟨h1, h2, h3⟩ := var_unvar hb h
  have h4 := varL_pos x
  refine ⟨by omega, ?_, h1⟩
  have := congrArg List.length h3
  rw [List.length_take] at this
  omega
set_option maxRecDepth 100000 in
set_option maxHeartbeats 1000000 in
theorem Num1_c (cb bb mb most : Nat) (l : List Nat) (w : World) (h : Cur w cb bb 0 l) (hb : ∀ c ∈ l, c < 256) (hl : l.length ≤ 1000000) (hm : Blk w mb #[.int .u64 (most : Int)] 25) (hmc : mb ≠ cb) :
    Calls Tryd.prog 131 #[.pointer (some ⟨cb, 0, none⟩), .pointer (some ⟨mb, 0, none⟩)] w fun r w' => r = .returned (.int .u64 ((unvar l).1 : Nat)) ∧ Cur w' cb bb (numC most l).2.1 (numC most l).2.2 ∧ Only (· = cb) w w' := by
  obtain ⟨a, cap, hc, hr⟩ := h.rd
  have HU := Unvar_c _ l w hr hb hl
  have c1 := hc.cell 1 _ rfl
  have m0 := hm.cell 0 _ rfl
  obtain ⟨x, n, e, hu⟩ : ∃ x n e, unvar l = (x, n, e) := ⟨_, _, _, rfl⟩
  unfold numC
  rw [hu] at HU ⊢
  simp only at HU ⊢
  have HU' := Lib.hid HU
  clear HU hr hc hm
  by_cases he : e = 0
  · subst he
    rw [if_neg (by simp)]
    obtain ⟨hn1, hn2, hx⟩ := unvar_ok hb hu
    by_cases hmo : most < x
    · rw [if_pos hmo]
      have HE := Lib.hid (err_c cb bb 0 2 l w h (by omega))
      rw [if_pos rfl] at HE
      have hgt : (most : Int) < (x : Int) := by omega
      clear hu hb hmo
      go_enter Tryd.func131, Tryd.ntmps131
      go_wp2_with (first
        | (go_at_call 132; refine HU'.out.mono ?_; rintro r w' ⟨rfl, rfl⟩)
        | (go_at_call 133; refine HE.out.mono ?_; rintro r w1 ⟨rfl, h1, hO1⟩))
      go_ret
      exact ⟨rfl, h1, hO1⟩
    · rw [if_neg hmo]
      have HT := Lib.hid (take_c cb bb 0 n l w h hn1 hn2 hl)
      have hgt : ¬ (most : Int) < (x : Int) := by omega
      clear hu hb hmo
      go_enter Tryd.func131, Tryd.ntmps131
      go_wp2_with (first
        | (go_at_call 132; refine HU'.out.mono ?_; rintro r w' ⟨rfl, rfl⟩)
        | (go_at_call 99; refine HT.out.mono ?_; rintro r w1 ⟨v1, rfl, -, -, h1, hO1⟩))
      go_ret
      exact ⟨rfl, h1, hO1⟩
  · rw [if_pos he]
    have HE := Lib.hid (err_c cb bb 0 e l w h (by omega))
    rw [if_pos rfl] at HE
    have hne : ((e : Int) != 0) = true := by simp; omega
    clear hu hb he
    go_enter Tryd.func131, Tryd.ntmps131
    go_wp2_with (first
      | (go_at_call 132; refine HU'.out.mono ?_; rintro r w' ⟨rfl, rfl⟩)
      | (go_at_call 133; refine HE.out.mono ?_; rintro r w1 ⟨rfl, h1, hO1⟩))
    go_ret
    exact ⟨rfl, h1, hO1⟩
/-- Num, of a cursor with whatever error. -/
def numE (e most : Nat) (l : List Nat) : Nat × Nat × List Nat := if e = 0 then numC most l else (0, e, l)
theorem numC_fst (most : Nat) (l : List Nat) : (if (numC most l).2.1 = 0 then (unvar l).1 else 0) = (numC most l).1 := by
  unfold numC
  by_cases h1 : (unvar l).2.2 = 0
  · by_cases h2 : most < (unvar l).1 <;> simp [h1, h2]
  · simp [h1]
set_option maxRecDepth 100000 in
theorem Num_c (cb bb e most : Nat) (l : List Nat) (w : World) (h : Cur w cb bb e l) (hb : ∀ c ∈ l, c < 256) (hl : l.length ≤ 1000000) :
    Calls Tryd.prog 97 #[.pointer (some ⟨cb, 0, none⟩), .int .u64 (most : Int)] w fun r w' => r = .returned (.int .u64 ((numE e most l).1 : Nat)) ∧ Cur w' cb bb (numE e most l).2.1 (numE e most l).2.2 ∧ Only (· = cb) w w' := by
  have hO := (Only.refl No w).alloc (.cells #[.int .u64 (most : Int)] 25)
  have hbm := Blk.new w #[.int .u64 (most : Int)] 25
  have key : Calls Tryd.prog 130 #[.pointer (some ⟨cb, 0, none⟩), .func (.func 131) #[] #[.pointer (some ⟨w.heap.size, 0, none⟩)]] (w.alloc (.cells #[.int .u64 (most : Int)] 25))
      fun r w' => r = .returned (.int .u64 ((numE e most l).1 : Nat)) ∧ Cur w' cb bb (numE e most l).2.1 (numE e most l).2.2 ∧ Only (· = cb) (w.alloc (.cells #[.int .u64 (most : Int)] 25)) w' := by
    by_cases he : e = 0
    · subst he
      have ent := enters_of Tryd.func131 (by kernel_rfl) rfl
      have h1 := Num1_c cb bb w.heap.size most l _ (h.no hO) hb hl hbm (by have := h.lt; omega)
      have h2 := once64_on cb bb l _ 131 #[.pointer (some ⟨w.heap.size, 0, none⟩)] ent (h.no hO) _ _ _ h1
      rw [numC_fst] at h2
      exact h2
    · have hb2 : numE e most l = (0, e, l) := by unfold numE; rw [if_neg he]
      rw [hb2]
      refine (once64_off cb bb e l _ (h.no hO) (by omega) _).mono ?_
      rintro r w' ⟨rfl, rfl⟩
      exact ⟨rfl, h.no hO, Only.refl _ _⟩
  generalize numE e most l = R at *
  have K := Lib.hid key
  clear key
  go_enter Tryd.func97, Tryd.ntmps97
  go_wp2_with (go_at_call 130; refine K.out.mono ?_; rintro r w1 ⟨rfl, h1, hO1⟩)
  go_ret
  exact ⟨rfl, h1, hO.of_no.trans hO1⟩
end Go.Proofs.YtdcinifcpaldiaaDoor
