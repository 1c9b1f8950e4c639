/- wire.Cursor: take, once, Byte. No statement is proved here. -/
import Derived.Test.YteepicoihifjlaaWire
namespace Go.Proofs.Yteepicoihifjlaa
open Go.RowKit

theorem u8s_drop (l : List Nat) (n : Nat) : u8s (l.drop n) = (u8s l).drop n := by simp [u8s, List.map_drop]
theorem u8s_take (l : List Nat) (n : Nat) : u8s (l.take n) = (u8s l).take n := by simp [u8s, List.map_take]
set_option maxRecDepth 100000 in
theorem take_c (cb bb e n : Nat) (l : List Nat) (w : World) (h : Cur w cb bb e l) (h1 : 1 ≤ n) (h2 : n ≤ l.length) (hl : l.length ≤ 1000000) :
    Calls Try.prog 134 #[.pointer (some ⟨cb, 0, none⟩), .int .i64 (n : Int)] w fun r w' => ∃ v, r = .returned v ∧ Rd w' v (u8s (l.take n)) ∧ v.ownBlock = some bb ∧ Cur w' cb bb e (l.drop n) ∧ Only (· = cb) w w' := by
  obtain ⟨hne, a, cap, hb, hc, hf⟩ := h
  obtain ⟨o, rfl, hbl, hcell⟩ := hf (by omega)
  have c0 := hb.cell 1 _ rfl
  have f0 := hb.free 1
  have h3 : ¬ (l.length : Int) < (n : Int) := by omega
  have hcl := fun (w' : World) (hO : Only (· = cb) w w') (j : Nat) (u : Value) (hu : (u8s l)[j]? = some u) => (hO.cell (p := ⟨bb, o + j, none⟩) hbl (fun e => hne e.symm)).trans (hcell j u hu)
  have key : ∀ (w' : World) (v : Value), Only (· = cb) w w' → v = .slice (some ⟨bb, o, none⟩) n n → Rd w' v (u8s (l.take n)) := fun w' v hO hv => by
    subst hv
    have e1 : (u8s (l.take n)).length = n := by simp; omega
    refine ⟨_, n, by rw [e1], by omega, fun _ => ⟨bb, o, rfl, Nat.lt_of_lt_of_le hbl hO.size, fun j u hu => hcl w' hO j u ?_⟩⟩
    rw [u8s_take, List.getElem?_take] at hu
    split at hu
    · exact hu
    · cases hu
  have key2 : ∀ (w' : World) (a' : Addr) (c' : Nat), Only (· = cb) w w' → Blk w' cb #[.int .i64 (e : Int), .slice (some a') (l.length - n) c'] 151 → l.length - n ≤ c' → (n < l.length → a' = ⟨bb, o + n, none⟩) → Cur w' cb bb e (l.drop n) := fun w' a' c' hO hB hcc ha => by
    have e1 : (l.drop n).length = l.length - n := by simp
    refine ⟨hne, some a', c', by rw [e1]; exact hB, by omega, fun hp => ⟨o + n, by rw [ha (by omega)], Nat.lt_of_lt_of_le hbl hO.size, fun j u hu => ?_⟩⟩
    rw [u8s_drop, List.getElem?_drop] at hu
    have := hcl w' hO (n + j) u hu
    rwa [← Nat.add_assoc] at this
  have K1 := Lib.hid key
  have K2 := Lib.hid key2
  clear hf hcl key key2 hcell
  have hn0 : (0 : Int) ≤ (n : Int) := by omega
  have hnc : (n : Int) ≤ (cap : Int) := by omega
  go_enter Try.func134, Try.ntmps134
  go_wp2
  · go_ret
    have hs := hb.set 1 (.slice (some ⟨bb, o, none⟩) (l.length - n) 0)
    have hO := (Only.refl (· = cb) w).set1 1 (.slice (some ⟨bb, o, none⟩) (l.length - n) 0)
    have hcn : cap = n := by assumption
    exact ⟨_, rfl, K1.out _ _ hO rfl, rfl, K2.out _ _ _ hO (by simpa using hs) (by omega) (fun h => by omega), hO⟩
  · go_ret
    have hs := hb.set 1 (.slice (some ⟨bb, o + n, none⟩) (l.length - n) (cap - n))
    have hO := (Only.refl (· = cb) w).set1 1 (.slice (some ⟨bb, o + n, none⟩) (l.length - n) (cap - n))
    exact ⟨_, rfl, K1.out _ _ hO rfl, rfl, K2.out _ _ _ hO (by simpa using hs) (by omega) (fun h => rfl), hO⟩
set_option maxRecDepth 100000 in
theorem take_short (cb bb e n : Nat) (l : List Nat) (w : World) (h : Cur w cb bb e l) (h2 : l.length < n) (hl : n ≤ 1000000) :
    Calls Try.prog 134 #[.pointer (some ⟨cb, 0, none⟩), .int .i64 (n : Int)] w fun r w' => r = .returned (.slice none 0 0) ∧ Cur w' cb bb (if e = 0 then 4 else e) [] ∧ Only (· = cb) w w' := by
  have H := Lib.hid (err_c cb bb e 4 l w h (by omega))
  obtain ⟨hne, a, cap, hb, hc, hf⟩ := h
  have c0 := hb.cell 1 _ rfl
  clear hf
  generalize (if e = 0 then 4 else e) = e2 at *
  have h3 : (l.length : Int) < (n : Int) := by omega
  go_enter Try.func134, Try.ntmps134
  go_wp2_with (go_at_call 133; refine H.out.mono ?_; rintro r w1 ⟨rfl, h1, hO1⟩)
  go_ret
  exact ⟨rfl, h1, hO1⟩
theorem one_c (cb bb e c : Nat) (l : List Nat) (w : World) (h : Cur w cb bb e (c :: l)) (hl : l.length < 1000000) :
    Calls Try.prog 136 #[.pointer (some ⟨cb, 0, none⟩)] w fun r w' => r = .returned (.int .u8 (c : Int)) ∧ Cur w' cb bb e l ∧ Only (· = cb) w w' := by
  have H := Lib.hid (take_c cb bb e 1 (c :: l) w h (by omega) (by simp) (by simp; omega))
  go_enter Try.func136, Try.ntmps136
  go_wp2_with (go_at_call 134; refine H.out.mono ?_; rintro r w1 ⟨v, rfl, hv, -, h1, hO1⟩; obtain ⟨a, cap, rfl, -⟩ := hv.cases; obtain ⟨-, b, o, rfl, hbl, hcell⟩ := hv.at (by simp [u8s]); have hc : w1.cell? ⟨b, o, none⟩ = some (.int .u8 (c : Int)) := hcell 0 _ rfl; clear hcell)
  go_ret
  exact ⟨rfl, h1, hO1⟩
theorem one_short (cb bb e : Nat) (w : World) (h : Cur w cb bb e []) :
    Calls Try.prog 136 #[.pointer (some ⟨cb, 0, none⟩)] w fun r w' => r = .returned (.int .u8 0) ∧ Cur w' cb bb (if e = 0 then 4 else e) [] ∧ Only (· = cb) w w' := by
  have H := Lib.hid (take_short cb bb e 1 [] w h (by simp) (by omega))
  generalize (if e = 0 then 4 else e) = e2 at *
  go_enter Try.func136, Try.ntmps136
  go_wp2_with (go_at_call 134; refine H.out.mono ?_; rintro r w1 ⟨rfl, h1, hO1⟩)
  go_ret
  exact ⟨rfl, h1, hO1⟩
/-- once at a byte, of a cursor with an error: nothing. -/
theorem once8_off (cb bb e : Nat) (l : List Nat) (w : World) (h : Cur w cb bb e l) (he : 1 ≤ e) (g : Value) :
    Calls Try.prog 135 #[.pointer (some ⟨cb, 0, none⟩), g] w fun r w' => r = .returned (.int .u8 0) ∧ w = w' := by
  have H := Lib.hid (well_c cb bb e l w h)
  have h10 : ((e : Int) == 0) = false := by simp; omega
  go_enter Try.func135, Try.ntmps135
  go_wp2_with (go_at_call 156; refine H.out.mono ?_; rintro r w' ⟨rfl, rfl⟩)
  go_ret
  exact ⟨rfl, rfl⟩
theorem once64_off (cb bb e : Nat) (l : List Nat) (w : World) (h : Cur w cb bb e l) (he : 1 ≤ e) (g : Value) :
    Calls Try.prog 130 #[.pointer (some ⟨cb, 0, none⟩), g] w fun r w' => r = .returned (.int .u64 0) ∧ w = w' := by
  have H := Lib.hid (well_c cb bb e l w h)
  have h10 : ((e : Int) == 0) = false := by simp; omega
  go_enter Try.func130, Try.ntmps130
  go_wp2_with (go_at_call 156; refine H.out.mono ?_; rintro r w' ⟨rfl, rfl⟩)
  go_ret
  exact ⟨rfl, rfl⟩
theorem once8_on (cb bb : Nat) (l : List Nat) (w : World) (fm : FuncId) (cm : Array Value) (ent : ∀ (args : Array Value) (W : World), (callFunc fm args).run Try.prog W = .ok (.enter fm args) W) (h : Cur w cb bb 0 l) (x e2 : Nat) (l2 : List Nat)
    (hr : Calls Try.prog fm (#[.pointer (some ⟨cb, 0, none⟩)] ++ cm) w fun r w' => r = .returned (.int .u8 (x : Int)) ∧ Cur w' cb bb e2 l2 ∧ Only (· = cb) w w') :
    Calls Try.prog 135 #[.pointer (some ⟨cb, 0, none⟩), .func (.func fm) #[] cm] w fun r w' => r = .returned (.int .u8 ((if e2 = 0 then x else 0 : Nat) : Int)) ∧ Cur w' cb bb e2 l2 ∧ Only (· = cb) w w' := by
  have H := Lib.hid (well_c cb bb 0 l w h)
  have H2 := Lib.hid hr
  clear hr
  by_cases he : e2 = 0
  · subst he
    rw [if_pos rfl]
    have H3 := Lib.hid (fun W h => well_c cb bb 0 l2 W h)
    go_enter Try.func135, Try.ntmps135
    go_wp2_with (first
      | (go_at_call 156; ((with_reducible refine H.out.mono ?_); rintro r w' ⟨rfl, rfl⟩))
      | (go_at_call 156; ((with_reducible refine (H3.out w1 h1).mono ?_); rintro r w' ⟨rfl, rfl⟩))
      | (refine H2.out.mono ?_; rintro r w1 ⟨rfl, h1, hO1⟩))
    go_ret
    exact ⟨rfl, h1, hO1⟩
  · rw [if_neg he]
    have H3 := Lib.hid (fun W h => well_c cb bb e2 l2 W h)
    have h10 : ((e2 : Int) == 0) = false := by simp; omega
    clear he
    go_enter Try.func135, Try.ntmps135
    go_wp2_with (first
      | (go_at_call 156; ((with_reducible refine H.out.mono ?_); rintro r w' ⟨rfl, rfl⟩))
      | (go_at_call 156; ((with_reducible refine (H3.out w1 h1).mono ?_); rintro r w' ⟨rfl, rfl⟩))
      | (refine H2.out.mono ?_; rintro r w1 ⟨rfl, h1, hO1⟩))
    go_ret
    exact ⟨rfl, h1, hO1⟩
theorem once64_on (cb bb : Nat) (l : List Nat) (w : World) (fm : FuncId) (cm : Array Value) (ent : ∀ (args : Array Value) (W : World), (callFunc fm args).run Try.prog W = .ok (.enter fm args) W) (h : Cur w cb bb 0 l) (x e2 : Nat) (l2 : List Nat)
    (hr : Calls Try.prog fm (#[.pointer (some ⟨cb, 0, none⟩)] ++ cm) w fun r w' => r = .returned (.int .u64 (x : Int)) ∧ Cur w' cb bb e2 l2 ∧ Only (· = cb) w w') :
    Calls Try.prog 130 #[.pointer (some ⟨cb, 0, none⟩), .func (.func fm) #[] cm] w fun r w' => r = .returned (.int .u64 ((if e2 = 0 then x else 0 : Nat) : Int)) ∧ Cur w' cb bb e2 l2 ∧ Only (· = cb) w w' := by
  have H := Lib.hid (well_c cb bb 0 l w h)
  have H2 := Lib.hid hr
  clear hr
  by_cases he : e2 = 0
  · subst he
    rw [if_pos rfl]
    have H3 := Lib.hid (fun W h => well_c cb bb 0 l2 W h)
    go_enter Try.func130, Try.ntmps130
    go_wp2_with (first
      | (go_at_call 156; ((with_reducible refine H.out.mono ?_); rintro r w' ⟨rfl, rfl⟩))
      | (go_at_call 156; ((with_reducible refine (H3.out w1 h1).mono ?_); rintro r w' ⟨rfl, rfl⟩))
      | (refine H2.out.mono ?_; rintro r w1 ⟨rfl, h1, hO1⟩))
    go_ret
    exact ⟨rfl, h1, hO1⟩
  · rw [if_neg he]
    have H3 := Lib.hid (fun W h => well_c cb bb e2 l2 W h)
    have h10 : ((e2 : Int) == 0) = false := by simp; omega
    clear he
    go_enter Try.func130, Try.ntmps130
    go_wp2_with (first
      | (go_at_call 156; ((with_reducible refine H.out.mono ?_); rintro r w' ⟨rfl, rfl⟩))
      | (go_at_call 156; ((with_reducible refine (H3.out w1 h1).mono ?_); rintro r w' ⟨rfl, rfl⟩))
      | (refine H2.out.mono ?_; rintro r w1 ⟨rfl, h1, hO1⟩))
    go_ret
    exact ⟨rfl, h1, hO1⟩
/-- Byte: what comes of a cursor: the byte, the error, the rest. -/
def byteC (e : Nat) (l : List Nat) : Nat × Nat × List Nat := if e = 0 then (match l with | [] => (0, 4, []) | c :: r => (c, 0, r)) else (0, e, l)
theorem Byte_c (cb bb e : Nat) (l : List Nat) (w : World) (h : Cur w cb bb e l) (hl : l.length ≤ 1000000) :
    Calls Try.prog 99 #[.pointer (some ⟨cb, 0, none⟩)] w fun r w' => r = .returned (.int .u8 ((byteC e l).1 : Nat)) ∧ Cur w' cb bb (byteC e l).2.1 (byteC e l).2.2 ∧ Only (· = cb) w w' := by
  have key : Calls Try.prog 135 #[.pointer (some ⟨cb, 0, none⟩), .func (.func 136) #[] #[]] w fun r w' => r = .returned (.int .u8 ((byteC e l).1 : Nat)) ∧ Cur w' cb bb (byteC e l).2.1 (byteC e l).2.2 ∧ Only (· = cb) w w' := by
    by_cases he : e = 0
    · subst he
      have ent := enters_of Try.func136 (by kernel_rfl) rfl
      rcases l with _ | ⟨c, r⟩
      · exact once8_on cb bb [] w 136 #[] ent h 0 4 [] (one_short cb bb 0 w h)
      · exact once8_on cb bb (c :: r) w 136 #[] ent h c 0 r (one_c cb bb 0 c r w h (by simp at hl; omega))
    · have hb : byteC e l = (0, e, l) := by unfold byteC; rw [if_neg he]
      rw [hb]
      refine (once8_off cb bb e l w h (by omega) _).mono ?_
      rintro r w' ⟨rfl, rfl⟩
      exact ⟨rfl, h, Only.refl _ _⟩
  generalize byteC e l = R at *
  have K := Lib.hid key
  clear key
  go_enter Try.func99, Try.ntmps99
  go_wp2_with (go_at_call 135; refine K.out.mono ?_; rintro r w1 ⟨rfl, h1, hO1⟩)
  go_ret
  exact ⟨rfl, h1, hO1⟩
end Go.Proofs.Yteepicoihifjlaa
