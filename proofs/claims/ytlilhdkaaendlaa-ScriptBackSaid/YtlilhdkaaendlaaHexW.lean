/- Bytes as hex digits: the program's and the document's. No statement is proved here. -/
import Derived.Test.YtlilhdkaaendlaaEv
import Derived.Laws.Shifts
namespace Go.Proofs.Ytlilhdkaaendlaa
open Go.RowKit

def dgt (n : Nat) : UInt8 := hexs.data.toList.getD n 0
def hexOut (l : List UInt8) : List UInt8 := l.flatMap fun c => [dgt (c.toNat / 16), dgt (c.toNat % 16)]
def hexM (l : List UInt8) : List UInt8 := if l = [] then [45] else hexOut l
theorem hexOut_len (l : List UInt8) : (hexOut l).length = 2 * l.length := by
  induction l with
  | nil => rfl
  | cons a l ih => unfold hexOut at *; rw [List.flatMap_cons, List.length_append, ih]; simp; omega
theorem hexOut_take (l : List UInt8) (i : Nat) (c : UInt8) (h : l[i]? = some c) : hexOut (l.take (i + 1)) = hexOut (l.take i) ++ [dgt (c.toNat / 16)] ++ [dgt (c.toNat % 16)] := by
  rw [List.take_add_one, h]
  unfold hexOut
  rw [List.flatMap_append]
  simp
theorem dgt_at (n : Nat) (h : n < 16) : hexs.data.toList[n]? = some (dgt n) := by
  unfold dgt
  rw [List.getD_eq_getElem?_getD]
  have : n < hexs.data.toList.length := h
  rw [List.getElem?_eq_getElem this]
  rfl
theorem hexs_get (n : Nat) (h : n < (⟨#[48, 49, 50, 51, 52, 53, 54, 55, 56, 57, 97, 98, 99, 100, 101, 102]⟩ : ByteArray).size) : (⟨#[48, 49, 50, 51, 52, 53, 54, 55, 56, 57, 97, 98, 99, 100, 101, 102]⟩ : ByteArray)[n]'h = dgt n := by
  have := (List.getElem?_eq_some_iff.1 (dgt_at n h)).2
  rw [← this]
  rfl
set_option maxRecDepth 100000 in
theorem hexs_cut (n : Nat) (h : n < 16) : (⟨#[48, 49, 50, 51, 52, 53, 54, 55, 56, 57, 97, 98, 99, 100, 101, 102]⟩ : ByteArray).extract n (n + 1) = ⟨#[dgt n]⟩ := by
  have e : ∀ k : Fin 16, (⟨#[48, 49, 50, 51, 52, 53, 54, 55, 56, 57, 97, 98, 99, 100, 101, 102]⟩ : ByteArray).extract k.val (k.val + 1) = ⟨#[dgt k.val]⟩ := by decide
  exact e ⟨n, h⟩
set_option maxRecDepth 100000 in
theorem hex_nib : ∀ c : Fin 256, bits BinOp.and .u8 ((c.val : Nat) : Int) 15 = ((c.val % 16 : Nat) : Int) := by decide
theorem bits_nib (c : UInt8) : bits BinOp.and .u8 (c.toNat : Int) 15 = (c.toNat : Int) % 16 := (hex_nib ⟨c.toNat, c.toNat_lt⟩).trans (by simp)
set_option maxRecDepth 100000 in
set_option maxHeartbeats 800000 in
theorem hex_c (v : Value) (l : List UInt8) (w : World) (hv : Sees w v (bys l)) (hl : l.length ≤ 1000000) : Calls Try.prog 20 #[v] w fun x w' => x = .returned (.string ⟨(hexM l).toArray⟩) ∧ Only No w w' := by
  obtain ⟨a, cap, rfl, hcap, hf⟩ := hv.form
  have hlen : (bys l).length = l.length := by simp [bys]
  simp only [hlen] at hcap hf ⊢
  by_cases h0 : l = []
  · have hM : hexM l = [45] := if_pos h0
    rw [hM]
    subst h0
    go_enter Try.func20, Try.ntmps20
    go_wp2_with fail
    go_ret
    exact ⟨rfl, Only.refl _ _⟩
  have hM : hexM l = hexOut l := if_neg h0
  rw [hM]
  have hp : 0 < l.length := List.length_pos_iff.2 h0
  obtain ⟨b, o, rfl, hb, hcell⟩ := hf hp
  have hq : ((l.length : Int) == 0) = false := beq_eq_false_iff_ne.2 (by omega)
  have hfresh := Lib.fresh_isBuilder 113 5 w
  clear hM h0 hv hf
  go_enter Try.func20, Try.ntmps20
  go_wp2_with fail
  go_loopg [11] (l.length : Nat) (fun g v11 wr => ∃ i : Nat, i + g = l.length ∧ v11 = .int .i64 i ∧ Lib.IsBuilderF 113 5 w.heap.size w.heap.size (Lib.byteCells (hexOut (l.take i))) wr ∧ Only No w wr)
  case atStart => exact ⟨0, by omega, rfl, Lib.IsBuilderF.of hfresh, (Only.refl _ _).alloc _⟩
  case round =>
    obtain ⟨i, hig, rfl, hB, hO⟩ := hrel
    have hz := hO.size
    by_cases hlt : i < l.length
    · obtain ⟨c, hc⟩ : ∃ c, l[i]? = some c := ⟨_, List.getElem?_eq_getElem hlt⟩
      have c1 := (hO.cell (p := ⟨b, o + i, none⟩) hb id).trans (hcell i _ (bys_get hc))
      have hc256 : c.toNat < 256 := c.toNat_lt
      have hT := Lib.hid (hexOut_take l i c hc)
      have hlo : (hexOut (l.take i)).length ≤ 2 * l.length := by rw [hexOut_len, List.length_take]; omega
      have HW1 := fun (W : World) (bs : List Value) (cc : Int) (h : Lib.IsBuilderF 113 5 w.heap.size w.heap.size bs W) (hle : bs.length + 1 ≤ 140737488355328) (hs : w.heap.size ≤ W.heap.size) => Lib.hid (Try.Builder_WriteByte_k w.heap.size w.heap.size bs cc W h hle hs)
      have hnib := bits_nib c
      have hm16 : (c.toNat : Int) % 16 < 16 := by omega
      have hm16' : (0 : Int) ≤ (c.toNat : Int) % 16 := by omega
      go_wp2_with fail
      refine (HW1 _ _ _ hB (by rw [Lib.byteCells_length]; omega) hz).out.mono ?_
      rintro x w2 ⟨rfl, hB1, hbl1, -⟩
      have hO2 : Only No w w2 := Only.of_below (hO.below_no.trans hbl1)
      have hz2 := hO2.size
      simp only [hexs_get] at hB1
      go_wp2_with fail
      refine (HW1 _ _ _ (.inr hB1) (by rw [List.length_append, Lib.byteCells_length]; simp; omega) hz2).out.mono ?_
      rintro x w3 ⟨rfl, hB2, hbl2, -⟩
      have hO3 : Only No w w3 := Only.of_below (hO2.below_no.trans hbl2)
      simp only [hexs_get] at hB2
      go_wp2_with fail
      go_roundg (l.length - (i + 1))
      case measure => omega
      case rel =>
        refine ⟨i + 1, by omega, by go_num, .inr ?_, hO3⟩
        rw [hT.out]
        have e : Lib.byteCells (hexOut (l.take i) ++ [dgt (c.toNat / 16)] ++ [dgt (c.toNat % 16)]) = Lib.byteCells (hexOut (l.take i)) ++ [.int .u8 ((dgt (c.toNat / 16)).toNat : Int)] ++ [.int .u8 ((dgt (c.toNat % 16)).toNat : Int)] := by simp [Lib.byteCells]
        rw [e]
        exact hB2
    · have hi : i = l.length := by omega
      rw [hi, List.take_length] at hB
      have HS := Lib.hid (Try.Builder_String_any_k w.heap.size w.heap.size _ wr hB hz)
      clear hB
      go_wp2_with fail
      refine HS.out.mono ?_
      rintro x w2 ⟨rfl, -, hbl, -⟩
      go_wp2_with fail
      go_ret
      exact ⟨rfl, Only.of_below (hO.below_no.trans hbl)⟩
set_option maxRecDepth 100000 in
set_option maxHeartbeats 800000 in
theorem rhex_c (v : Value) (l : List UInt8) (w : World) (hv : Sees w v (bys l)) (hl : l.length ≤ 1000000) : Calls Try.prog 21 #[v] w fun x w' => x = .returned (.string ⟨(hexM l).toArray⟩) ∧ Only No w w' := by
  obtain ⟨a, cap, rfl, hcap, hf⟩ := hv.form
  have hlen : (bys l).length = l.length := by simp [bys]
  simp only [hlen] at hcap hf ⊢
  by_cases h0 : l = []
  · have hM : hexM l = [45] := if_pos h0
    rw [hM]
    have hl0 : l.length = 0 := by rw [h0]; rfl
    rw [hl0]
    clear hf hv hM h0 hl0 hlen
    go_enter Try.func21, Try.ntmps21
    go_wp2_with fail
    go_ret
    exact ⟨rfl, Only.refl _ _⟩
  have hM : hexM l = hexOut l := if_neg h0
  rw [hM]
  have hp : 0 < l.length := List.length_pos_iff.2 h0
  obtain ⟨b, o, rfl, hb, hcell⟩ := hf hp
  have hq : ((l.length : Int) == 0) = false := beq_eq_false_iff_ne.2 (by omega)
  clear hM h0 hv hf
  go_enter Try.func21, Try.ntmps21
  go_wp2_with fail
  go_loopg [3, 4] (l.length : Nat) (fun g v3 v4 wr => ∃ i : Nat, i + g = l.length ∧ v4 = .int .i64 i ∧ v3 = .string ⟨(hexOut (l.take i)).toArray⟩ ∧ Only No w wr)
  case atStart => exact ⟨0, by omega, rfl, rfl, Only.refl _ _⟩
  case round =>
    obtain ⟨i, hig, rfl, rfl, hO⟩ := hrel
    by_cases hlt : i < l.length
    · obtain ⟨c, hc⟩ : ∃ c, l[i]? = some c := ⟨_, List.getElem?_eq_getElem hlt⟩
      have c1 := (hO.cell (p := ⟨b, o + i, none⟩) hb id).trans (hcell i _ (bys_get hc))
      have hc256 : c.toNat < 256 := c.toNat_lt
      have hT := Lib.hid (hexOut_take l i c hc)
      have hlti : (i : Int) < (l.length : Int) := by omega
      have hi0 : (0 : Int) ≤ (i : Int) := by omega
      have hx1 := hexs_cut (c.toNat / 16) (by omega)
      have hx2 := hexs_cut (c.toNat % 16) (by omega)
      have hlo : (hexOut (l.take i)).length ≤ 2 * l.length := by rw [hexOut_len, List.length_take]; omega
      obtain ⟨S, hS⟩ : ∃ S : ByteArray, S = ⟨(hexOut (l.take i)).toArray⟩ := ⟨_, rfl⟩
      have hSs : S.size = (hexOut (l.take i)).length := by rw [hS]; rfl
      have hS1 : (S.size : Int) + 1 ≤ 9000000 := by omega
      rw [← hS]
      have HS := Lib.hid hS
      clear hc hS hSs hlo
      go_wp2_with fail
      go_region
      go_wp2_with fail
      go_roundg (l.length - (i + 1))
      case measure => omega
      case rel =>
        refine ⟨i + 1, by omega, by go_num, ?_, hO.drew⟩
        rw [hT.out, HS.out]
        refine congrArg Value.string (ByteArray.ext ?_)
        simp [ByteArray.data_append]
    · have hi : i = l.length := by omega
      have HI := Lib.hid hi
      clear hi
      go_wp2_with fail
      go_ret
      rw [HI.out, List.take_length]
      exact ⟨rfl, hO⟩
end Go.Proofs.Ytlilhdkaaendlaa
