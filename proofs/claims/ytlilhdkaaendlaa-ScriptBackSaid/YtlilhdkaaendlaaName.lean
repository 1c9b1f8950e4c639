/- Names: bytes that a name may have, its text. No statement is proved here. -/
import Derived.Test.YtlilhdkaaendlaaRead
import Derived.Laws.StructEq
namespace Go.Proofs.Ytlilhdkaaendlaa
open Go.RowKit

def letB (c : UInt8) : Bool := decide (97 ≤ c.toNat) && decide (c.toNat ≤ 122)
def othB (c : UInt8) : Bool := letB c || (decide (48 ≤ c.toNat) && decide (c.toNat ≤ 57)) || decide (c.toNat = 45)
def zerB (c : UInt8) : Bool := decide (c.toNat = 0)
theorem letter_c (c : UInt8) (w : World) : Calls Try.prog 110 #[.int .u8 (c.toNat : Int)] w fun e w' => e = .returned (.bool (letB c)) ∧ w = w' := by
  unfold letB
  by_cases h1 : 97 ≤ c.toNat
  all_goals
    go_enter Try.func110, Try.ntmps110
    go_wp2
    all_goals go_ret
    all_goals exact ⟨ret_eq (by show Value.bool _ = Value.bool _; exact congrArg Value.bool (Bool.eq_iff_iff.2 (by first | exact Iff.rfl | (simp; done) | (simp; omega)))), rfl⟩
theorem rLetter_c (c : UInt8) (w : World) : Calls Try.prog 105 #[.int .u8 (c.toNat : Int)] w fun e w' => e = .returned (.bool (letB c)) ∧ w = w' := by
  unfold letB
  by_cases h1 : 97 ≤ c.toNat
  all_goals
    go_enter Try.func105, Try.ntmps105
    go_wp2
    all_goals go_ret
    all_goals exact ⟨ret_eq (by show Value.bool _ = Value.bool _; exact congrArg Value.bool (Bool.eq_iff_iff.2 (by first | exact Iff.rfl | (simp; done) | (simp; omega)))), rfl⟩
theorem zero_c (c : UInt8) (w : World) : Calls Try.prog 113 #[.int .u8 (c.toNat : Int)] w fun e w' => e = .returned (.bool (zerB c)) ∧ w = w' := by
  unfold zerB
  go_enter Try.func113, Try.ntmps113
  go_wp2
  all_goals go_ret
  all_goals exact ⟨ret_eq (by show Value.bool _ = Value.bool _; rw [Value.bool.injEq, Bool.eq_iff_iff]; simp; try omega), rfl⟩
set_option maxRecDepth 100000 in
theorem other_c (c : UInt8) (w : World) : Calls Try.prog 112 #[.int .u8 (c.toNat : Int)] w fun e w' => e = .returned (.bool (othB c)) ∧ w = w' := by
  have HL := fun W : World => Lib.hid (letter_c c W)
  cases h0 : letB c with
  | true =>
    have hR : othB c = true := by simp [othB, h0]
    have HR := Lib.hid hR
    clear hR
    rw [h0] at HL
    clear h0
    go_enter Try.func112, Try.ntmps112
    go_wp2_with (go_at_call 110; refine (HL _).out.mono ?_; rintro e w' ⟨rfl, rfl⟩)
    all_goals go_ret
    all_goals exact ⟨ret_eq (by rw [HR.out]; rfl), rfl⟩
  | false =>
    have hR : othB c = ((decide (48 ≤ c.toNat) && decide (c.toNat ≤ 57)) || decide (c.toNat = 45)) := by simp [othB, h0]
    have HR := Lib.hid hR
    clear hR
    rw [h0] at HL
    clear h0
    by_cases h1 : 48 ≤ c.toNat
    all_goals
      go_enter Try.func112, Try.ntmps112
      go_wp2_with (go_at_call 110; refine (HL _).out.mono ?_; rintro e w' ⟨rfl, rfl⟩)
      all_goals go_ret
      all_goals exact ⟨ret_eq (by rw [HR.out]; clear HL HR; show Value.bool _ = Value.bool _; rw [Value.bool.injEq, Bool.eq_iff_iff]; simp at *; try omega), rfl⟩
set_option maxRecDepth 100000 in
theorem rOther_c (c : UInt8) (w : World) : Calls Try.prog 106 #[.int .u8 (c.toNat : Int)] w fun e w' => e = .returned (.bool (othB c)) ∧ w = w' := by
  have HL := fun W : World => Lib.hid (rLetter_c c W)
  cases h0 : letB c with
  | true =>
    have hR : othB c = true := by simp [othB, h0]
    have HR := Lib.hid hR
    clear hR
    rw [h0] at HL
    clear h0
    go_enter Try.func106, Try.ntmps106
    go_wp2_with (go_at_call 105; refine (HL _).out.mono ?_; rintro e w' ⟨rfl, rfl⟩)
    all_goals go_ret
    all_goals exact ⟨ret_eq (by rw [HR.out]; rfl), rfl⟩
  | false =>
    have hR : othB c = ((decide (48 ≤ c.toNat) && decide (c.toNat ≤ 57)) || decide (c.toNat = 45)) := by simp [othB, h0]
    have HR := Lib.hid hR
    clear hR
    rw [h0] at HL
    clear h0
    by_cases h1 : 48 ≤ c.toNat
    all_goals
      go_enter Try.func106, Try.ntmps106
      go_wp2_with (go_at_call 105; refine (HL _).out.mono ?_; rintro e w' ⟨rfl, rfl⟩)
      all_goals go_ret
      all_goals exact ⟨ret_eq (by rw [HR.out]; clear HL HR; show Value.bool _ = Value.bool _; rw [Value.bool.injEq, Bool.eq_iff_iff]; simp at *; try omega), rfl⟩

def bys (l : List UInt8) : List Value := l.map fun c => .int .u8 (c.toNat : Int)
theorem bys_get {l : List UInt8} {i : Nat} {c : UInt8} (h : l[i]? = some c) : (bys l)[i]? = some (.int .u8 (c.toNat : Int)) := by simp [bys, h]
/-- A function of bytes that says yes or no. -/
structure Says (f : FuncId) (m : UInt8 → Bool) : Prop where
  ent : ∀ (args : Array Value) (W : World), (callFunc f args).run Try.prog W = .ok (.enter f args) W
  calls : ∀ (c : UInt8) (w : World), Calls Try.prog f #[.int .u8 (c.toNat : Int)] w fun e w' => e = .returned (.bool (m c)) ∧ w = w'
theorem says_other : Says 112 othB := ⟨fun args W => by kernel_rfl, other_c⟩
theorem says_zero : Says 113 zerB := ⟨fun args W => by kernel_rfl, zero_c⟩

set_option maxRecDepth 100000 in
theorem all_c (b off cap : Nat) (l : List UInt8) (f : FuncId) (m : UInt8 → Bool) (hf : Says f m) (w : World) (hl : l.length ≤ 1000)
    (hc : ∀ i c, l[i]? = some c → w.cell? ⟨b, off + i, none⟩ = some (.int .u8 (c.toNat : Int))) :
    Calls Try.prog 111 #[.slice (some ⟨b, off, none⟩) l.length cap, .func (.func f) #[] #[]] w fun e w' => e = .returned (.bool (l.all m)) ∧ w = w' := by
  go_enter Try.func111, Try.ntmps111
  go_wp2_with fail
  go_loopg [9] (l.length : Nat) (fun g v9 wr => ∃ i : Nat, i + g = l.length ∧ v9 = .int .i64 i ∧ (l.take i).all m = true ∧ w = wr)
  case atStart => exact ⟨0, by omega, rfl, by simp, rfl⟩
  case round =>
    obtain ⟨i, hig, rfl, ha, rfl⟩ := hrel
    by_cases hlt : i < l.length
    · obtain ⟨c, hcc⟩ : ∃ c, l[i]? = some c := ⟨_, List.getElem?_eq_getElem hlt⟩
      have hcell := hc i c hcc
      have he := hf.ent
      have ht : l.take (i + 1) = l.take i ++ [c] := by rw [List.take_add_one, hcc]; rfl
      cases hm : m c with
      | true =>
        have hA : (l.take (i + 1)).all m = true := by rw [ht, List.all_append, ha]; simp [hm]
        have HA := Lib.hid hA
        have HM := Lib.hid hm
        clear hA hm ht ha hcc hc
        go_wp2_with fail
        refine (hf.calls c _).mono ?_
        rw [HM.out]
        rintro e w' ⟨rfl, rfl⟩
        go_wp2_with fail
        go_roundg (l.length - (i + 1))
        case measure => omega
        case rel => exact ⟨i + 1, by omega, by go_num, HA.out, rfl⟩
      | false =>
        have hA : l.all m = false := by
          rw [List.all_eq_false]
          exact ⟨c, List.mem_of_getElem? hcc, by simp [hm]⟩
        have HA := Lib.hid hA
        have HM := Lib.hid hm
        clear hA hm ht ha hcc hc
        go_wp2_with fail
        refine (hf.calls c _).mono ?_
        rw [HM.out]
        rintro e w' ⟨rfl, rfl⟩
        go_wp2_with fail
        go_ret
        exact ⟨ret_eq (by rw [HA.out]; rfl), rfl⟩
    · have hi : i = l.length := by omega
      subst hi
      rw [List.take_length] at ha
      have HA := Lib.hid ha
      clear ha
      go_wp2_with fail
      go_ret
      exact ⟨ret_eq (by rw [HA.out]; rfl), rfl⟩
/-- A name: 8 bytes. -/
def nmV (n : List UInt8) : Value := .agg (bys n).toArray
def nsz (n : List UInt8) : Nat := (n.takeWhile (fun c => !zerB c)).length
def ntxt (n : List UInt8) : List UInt8 := n.takeWhile (fun c => !zerB c)
theorem eight {n : List UInt8} (h : n.length = 8) : ∃ a b c d e f g i, n = [a, b, c, d, e, f, g, i] := by
  match n, h with
  | [a, b, c, d, e, f, g, i], _ => exact ⟨a, b, c, d, e, f, g, i, rfl⟩
theorem zerB_iff (c : UInt8) : ((c.toNat : Int) == 0) = zerB c := by
  unfold zerB
  rw [Bool.eq_iff_iff]
  simp
theorem nmi0 (a b c d e f g h : UInt8) (W : World) : (Instr.index 49 (.agg #[.int .u8 (a.toNat : Int), .int .u8 (b.toNat : Int), .int .u8 (c.toNat : Int), .int .u8 (d.toNat : Int), .int .u8 (e.toNat : Int), .int .u8 (f.toNat : Int), .int .u8 (g.toNat : Int), .int .u8 (h.toNat : Int)]) (.int .i64 0)).run Try.prog W = .ok (.int .u8 (a.toNat : Int)) W := by kernel_rfl
theorem nmi1 (a b c d e f g h : UInt8) (W : World) : (Instr.index 49 (.agg #[.int .u8 (a.toNat : Int), .int .u8 (b.toNat : Int), .int .u8 (c.toNat : Int), .int .u8 (d.toNat : Int), .int .u8 (e.toNat : Int), .int .u8 (f.toNat : Int), .int .u8 (g.toNat : Int), .int .u8 (h.toNat : Int)]) (.int .i64 1)).run Try.prog W = .ok (.int .u8 (b.toNat : Int)) W := by kernel_rfl
theorem nmi2 (a b c d e f g h : UInt8) (W : World) : (Instr.index 49 (.agg #[.int .u8 (a.toNat : Int), .int .u8 (b.toNat : Int), .int .u8 (c.toNat : Int), .int .u8 (d.toNat : Int), .int .u8 (e.toNat : Int), .int .u8 (f.toNat : Int), .int .u8 (g.toNat : Int), .int .u8 (h.toNat : Int)]) (.int .i64 2)).run Try.prog W = .ok (.int .u8 (c.toNat : Int)) W := by kernel_rfl
theorem nmi3 (a b c d e f g h : UInt8) (W : World) : (Instr.index 49 (.agg #[.int .u8 (a.toNat : Int), .int .u8 (b.toNat : Int), .int .u8 (c.toNat : Int), .int .u8 (d.toNat : Int), .int .u8 (e.toNat : Int), .int .u8 (f.toNat : Int), .int .u8 (g.toNat : Int), .int .u8 (h.toNat : Int)]) (.int .i64 3)).run Try.prog W = .ok (.int .u8 (d.toNat : Int)) W := by kernel_rfl
theorem nmi4 (a b c d e f g h : UInt8) (W : World) : (Instr.index 49 (.agg #[.int .u8 (a.toNat : Int), .int .u8 (b.toNat : Int), .int .u8 (c.toNat : Int), .int .u8 (d.toNat : Int), .int .u8 (e.toNat : Int), .int .u8 (f.toNat : Int), .int .u8 (g.toNat : Int), .int .u8 (h.toNat : Int)]) (.int .i64 4)).run Try.prog W = .ok (.int .u8 (e.toNat : Int)) W := by kernel_rfl
theorem nmi5 (a b c d e f g h : UInt8) (W : World) : (Instr.index 49 (.agg #[.int .u8 (a.toNat : Int), .int .u8 (b.toNat : Int), .int .u8 (c.toNat : Int), .int .u8 (d.toNat : Int), .int .u8 (e.toNat : Int), .int .u8 (f.toNat : Int), .int .u8 (g.toNat : Int), .int .u8 (h.toNat : Int)]) (.int .i64 5)).run Try.prog W = .ok (.int .u8 (f.toNat : Int)) W := by kernel_rfl
theorem nmi6 (a b c d e f g h : UInt8) (W : World) : (Instr.index 49 (.agg #[.int .u8 (a.toNat : Int), .int .u8 (b.toNat : Int), .int .u8 (c.toNat : Int), .int .u8 (d.toNat : Int), .int .u8 (e.toNat : Int), .int .u8 (f.toNat : Int), .int .u8 (g.toNat : Int), .int .u8 (h.toNat : Int)]) (.int .i64 6)).run Try.prog W = .ok (.int .u8 (g.toNat : Int)) W := by kernel_rfl
theorem nmi7 (a b c d e f g h : UInt8) (W : World) : (Instr.index 49 (.agg #[.int .u8 (a.toNat : Int), .int .u8 (b.toNat : Int), .int .u8 (c.toNat : Int), .int .u8 (d.toNat : Int), .int .u8 (e.toNat : Int), .int .u8 (f.toNat : Int), .int .u8 (g.toNat : Int), .int .u8 (h.toNat : Int)]) (.int .i64 7)).run Try.prog W = .ok (.int .u8 (h.toNat : Int)) W := by kernel_rfl
theorem nm_at (n : List UInt8) (hn : n.length = 8) (i : Nat) (c : UInt8) (hc : n[i]? = some c) (W : World) :
    (Instr.index 49 (nmV n) (.int .i64 (i : Int))).run Try.prog W = .ok (.int .u8 (c.toNat : Int)) W := by
  obtain ⟨a, b, c', d, e, f, g, h, rfl⟩ := eight hn
  have hi : i < 8 := by have := (List.getElem?_eq_some_iff.1 hc).1; simpa using this
  match i, hi with
  | 0, _ => simp at hc; subst hc; exact nmi0 _ _ _ _ _ _ _ _ W
  | 1, _ => simp at hc; subst hc; exact nmi1 _ _ _ _ _ _ _ _ W
  | 2, _ => simp at hc; subst hc; exact nmi2 _ _ _ _ _ _ _ _ W
  | 3, _ => simp at hc; subst hc; exact nmi3 _ _ _ _ _ _ _ _ W
  | 4, _ => simp at hc; subst hc; exact nmi4 _ _ _ _ _ _ _ _ W
  | 5, _ => simp at hc; subst hc; exact nmi5 _ _ _ _ _ _ _ _ W
  | 6, _ => simp at hc; subst hc; exact nmi6 _ _ _ _ _ _ _ _ W
  | 7, _ => simp at hc; subst hc; exact nmi7 _ _ _ _ _ _ _ _ W
theorem tw_hit (n : List UInt8) (i : Nat) (c : UInt8) (hc : n[i]? = some c) (hz : zerB c = true) (ha : (n.take i).all (fun c => !zerB c) = true) : ntxt n = n.take i ∧ nsz n = i := by
  have hi := (List.getElem?_eq_some_iff.1 hc).1
  have h1 : ntxt n = n.take i := by
    unfold ntxt
    conv => lhs; rw [← List.take_append_drop i n]
    rw [List.takeWhile_append_of_pos (by simpa using ha), List.drop_eq_getElem_cons hi, List.takeWhile_cons]
    have : n[i] = c := (List.getElem?_eq_some_iff.1 hc).2
    simp [this, hz]
  exact ⟨h1, by unfold nsz; rw [show n.takeWhile (fun c => !zerB c) = n.take i from h1, List.length_take]; omega⟩
theorem tw_all (n : List UInt8) (ha : n.all (fun c => !zerB c) = true) : ntxt n = n ∧ nsz n = n.length := by
  have h1 : ntxt n = n := by
    unfold ntxt
    have := List.takeWhile_append_of_pos (p := fun c => !zerB c) (l₁ := n) (l₂ := []) (by simpa using ha)
    simpa using this
  exact ⟨h1, by unfold nsz; rw [show n.takeWhile (fun c => !zerB c) = n from h1]⟩
theorem nsz_len (n : List UInt8) : nsz n ≤ n.length := (List.takeWhile_sublist _).length_le
theorem ntxt_take (n : List UInt8) : ntxt n = n.take (nsz n) := by
  unfold ntxt nsz
  exact (List.prefix_iff_eq_take.1 (List.takeWhile_prefix _))

set_option maxRecDepth 100000 in
theorem size_c (n : List UInt8) (hn : n.length = 8) (w : World) :
    Calls Try.prog 107 #[nmV n] w fun e w' => e = .returned (.int .i64 (nsz n : Nat)) ∧ Only No w w' := by
  obtain ⟨a, b, c, d, e, f, g, h, hh⟩ := eight hn
  obtain ⟨N, hN⟩ : ∃ N, N = nmV n := ⟨_, rfl⟩
  have hN' : N = .agg #[.int .u8 (a.toNat : Int), .int .u8 (b.toNat : Int), .int .u8 (c.toNat : Int), .int .u8 (d.toNat : Int), .int .u8 (e.toNat : Int), .int .u8 (f.toNat : Int), .int .u8 (g.toNat : Int), .int .u8 (h.toNat : Int)] := by rw [hN, hh]; rfl
  have HN := Lib.hid hN
  have HE := Lib.hid (hN.symm.trans hN')
  rw [← hN, hN']
  clear hN' hh hN
  go_enter Try.func107, Try.ntmps107
  go_wp2_with fail
  go_loopg [6] (8 : Nat) (fun g v6 wr => ∃ i : Nat, i + g = 8 ∧ v6 = .int .i64 i ∧ (n.take i).all (fun c => !zerB c) = true ∧ Only No w wr)
  case atStart => exact ⟨0, by omega, rfl, by simp, (Only.refl _ _).alloc _⟩
  case round =>
    obtain ⟨i, hig, rfl, ha, hO⟩ := hrel
    by_cases hlt : i < 8
    · obtain ⟨k, hk⟩ : ∃ k, n[i]? = some k := ⟨_, List.getElem?_eq_getElem (by omega)⟩
      have hix := fun W : World => nm_at n hn i k hk W
      simp only [HE.out] at hix
      have ht : n.take (i + 1) = n.take i ++ [k] := by rw [List.take_add_one, hk]; rfl
      have hzk := zerB_iff k
      cases hz : zerB k with
      | true =>
        have hA := (tw_hit n i k hk hz ha).2
        have HA := Lib.hid hA
        rw [hz] at hzk
        clear hA ht ha hk hz HE HN
        go_wp2_with fail
        go_ret
        exact ⟨ret_eq (by rw [HA.out]; rfl), hO⟩
      | false =>
        have hA : (n.take (i + 1)).all (fun c => !zerB c) = true := by rw [ht, List.all_append, ha]; simp [hz]
        have HA := Lib.hid hA
        rw [hz] at hzk
        clear hA ht ha hk hz HE HN
        go_wp2_with fail
        go_roundg (8 - (i + 1))
        case measure => omega
        case rel => exact ⟨i + 1, by omega, by go_num, HA.out, hO⟩
    · have hi : i = 8 := by omega
      subst hi
      rw [List.take_of_length_le (by omega)] at ha
      have HA := Lib.hid ((tw_all n ha).2.trans hn)
      clear ha HE HN
      go_wp2_with fail
      go_ret
      exact ⟨ret_eq (by rw [HA.out]; rfl), hO⟩
end Go.Proofs.Ytlilhdkaaendlaa
