/- num.Join and the reference's Join of numbers: the walks. No statement is proved here. -/
import Derived.Test.YtpegbplppfbomaaJoin
import Derived.Laws.MakeOwn
namespace Go.Proofs.Ytpegbplppfbomaa
open Go.RowKit

def inI (x : Int) : Prop := -9223372036854775808 ≤ x ∧ x ≤ 9223372036854775807
def joinI (l : List Int) : List UInt8 := joinM (l.map printM)
theorem printed_len {l : List Int} (h : ∀ x ∈ l, inI x) : ∀ p ∈ l.map printM, p.length ≤ 1000 := by
  intro p hp
  obtain ⟨x, hx, rfl⟩ := List.mem_map.1 hp
  have := printM_len x (h x hx).1 (h x hx).2
  omega

set_option maxRecDepth 100000 in
theorem rjoin_c (v : Value) (l : List Int) (w : World) (hv : Sees w v (ints l)) (hn : l.length ≤ 1000000) (hr : ∀ x ∈ l, inI x) :
    Calls Try.prog 34 #[v] w fun e w' => e = .returned (.string ⟨(joinI l).toArray⟩) ∧ w = w' := by
  obtain ⟨a, cap, rfl, -, hcells⟩ := hv.form
  rw [ints_length] at hcells ⊢
  have HL := Lib.hid (printed_len hr)
  have HR := Lib.hid hr
  clear hv hr
  go_enter Try.func34, Try.ntmps34
  go_wp2_with fail
  go_loopg [3, 4] (l.length : Nat) (fun g v3 v4 wr => ∃ (k : Nat) (st : ByteArray), k + g = l.length ∧ v4 = .int .i64 k ∧ v3 = .string st ∧ JoinS (l.map printM) k st ∧ w = wr)
  case atStart => exact ⟨0, ⟨#[]⟩, by omega, rfl, rfl, ⟨rfl, by simp [ByteArray.size]⟩, rfl⟩
  case round =>
    obtain ⟨k, st, hk, rfl, rfl, hJ, rfl⟩ := hrel
    have hst : st.size ≤ 1001 * 1000000 := by have := hJ.2; omega
    by_cases hlt : k < l.length
    · obtain ⟨b, off, rfl, hb, hcell⟩ := hcells (by omega)
      have c1 := hcell k _ (ints_get hlt)
      have hxr := HR.out _ (List.getElem_mem hlt)
      have hg : (l.map printM)[k]? = some (printM l[k]) := by simp [hlt]
      clear hcells hcell
      generalize l[k] = x at *
      obtain ⟨x0, x1⟩ := hxr
      have hC := rprint_all _ x w (Nat.le_refl _) x0 x1
      have HC := Lib.hid hC
      clear hC
      rcases Nat.eq_zero_or_pos k with hz | hpos
      · have HN := Lib.hid (fun (p : ByteArray) (hp : p = ⟨(printM x).toArray⟩) => show JoinS (l.map printM) (k + 1) (st ++ p) by subst hz; exact hJ.first HL.out p (by rw [hg, hp]) st)
        have hk0 : (k : Int) ≤ 0 := by omega
        clear hJ hg hz
        go_wp2_with fail
        refine HC.out.mono ?_
        rintro e w' ⟨sv, rfl, hsv, hss, rfl⟩
        have HS := Lib.hid hsv
        clear hsv
        go_wp2_with fail
        go_roundg (l.length - (k + 1))
        case measure => omega
        case rel => exact ⟨k + 1, _, by omega, by go_num, rfl, HN.out sv HS.out, rfl⟩
      · have HN := Lib.hid (fun (p : ByteArray) (hp : p = ⟨(printM x).toArray⟩) => hJ.more HL.out k hpos p (by rw [hg, hp]) st)
        have hk0 : (0 : Int) < (k : Int) := by omega
        have hz : (⟨#[32]⟩ : ByteArray).size = 1 := rfl
        clear hJ hg
        go_wp2_with fail
        refine HC.out.mono ?_
        rintro e w' ⟨sv, rfl, hsv, hss, rfl⟩
        have HS := Lib.hid hsv
        clear hsv
        go_wp2_with fail
        go_roundg (l.length - (k + 1))
        case measure => omega
        case rel => exact ⟨k + 1, _, by omega, by go_num, rfl, HN.out sv HS.out, rfl⟩
    · have hke : k = l.length := by omega
      have hfin := hJ.1
      rw [hke, List.take_of_length_le (by simp)] at hfin
      have HF := Lib.hid hfin
      clear hfin hJ
      go_wp2_with fail
      go_ret
      exact ⟨ret_eq (by show Value.string st = _; rw [HF.out]; rfl), rfl⟩

theorem make_strs (n : Nat) (W : World) (hn : n ≤ 1000000) : (Instr.makeSlice 107 (.int .i64 (n : Int)) (.int .i64 (n : Int))).run Try.prog W =
    .ok (.slice (some ⟨W.heap.size, 0, none⟩) n n) (W.alloc (.cells (madeCells #[.string ⟨#[]⟩] n) 9)) := by
  obtain ⟨i0, hi, hz0, hz1, hz2⟩ := info_parts info_str
  have := run_make W 107 9 i0 _ Try.underlying107 hi hz0 .i64 .i64 (n : Int) (n : Int) (by omega) (by omega) (by rw [hz2]; omega) (by omega)
  rw [hz1, Nat.mul_one] at this
  simpa [Value.cells] using this

set_option maxRecDepth 100000 in
theorem join2_c (v : Value) (l : List Int) (w : World) (hv : Sees w v (ints l)) (hn : l.length ≤ 1000000) (hr : ∀ x ∈ l, inI x) :
    Calls Try.prog 33 #[v] w fun e w' => e = .returned (.string ⟨(joinI l).toArray⟩) ∧ Only No w w' := by
  obtain ⟨a, cap, rfl, -, hcells⟩ := hv.form
  rw [ints_length] at hcells ⊢
  have HR := Lib.hid hr
  have hmk := fun W : World => make_strs l.length W hn
  clear hv hr
  go_enter Try.func33, Try.ntmps33
  go_wp2_with fail
  go_loopg [11] (l.length : Nat) (fun g v11 wr => ∃ (k : Nat) (cur : Array Value), k + g = l.length ∧ v11 = .int .i64 k ∧ Blk wr w.heap.size cur 9 ∧ cur.size = l.length ∧
      (∀ i (h : i < k), ∃ x, l[i]? = some x ∧ cur[i]? = some (.string ⟨(printM x).toArray⟩)) ∧ Only No w wr)
  case atStart => exact ⟨0, _, by omega, rfl, Blk.new _ _ _, size_madeCells _ _, fun i h => absurd h (by omega), (Only.refl _ _).alloc _⟩
  case round =>
    obtain ⟨k, cur, hk, rfl, hb, hsz, hcur, hO⟩ := hrel
    by_cases hlt : k < l.length
    · obtain ⟨b, off, rfl, hbl, hcell⟩ := hcells (by omega)
      have c1 := (hO.cell (p := ⟨b, off + k, none⟩) hbl id).trans (hcell k _ (ints_get hlt))
      have hxr := HR.out _ (List.getElem_mem hlt)
      have hgx : l[k]? = some l[k] := List.getElem?_eq_getElem hlt
      have HCU := Lib.hid hcur
      have HGX := Lib.hid hgx
      clear hcells hcell hcur hgx
      generalize l[k] = x at *
      obtain ⟨x0, x1⟩ := hxr
      go_wp2_with fail
      refine (print_c x _ x0 x1).mono ?_
      rintro e w1 ⟨rfl, hO1⟩
      have hb1 := hO1.blk hb id
      have hf1 := hb1.free k
      obtain ⟨o, ho⟩ : ∃ o, cur[k]? = some o := ⟨_, Array.getElem?_eq_getElem (by omega)⟩
      have hc1 := hb1.cell k o ho
      clear ho
      go_wp2_with fail
      go_roundg (l.length - (k + 1))
      case measure => omega
      case rel =>
        refine ⟨k + 1, _, by omega, by go_num, hb1.set k _, by simpa using hsz, fun i hi => ?_, (hO.trans hO1).setCell _ _ (fun hk => absurd hk (Nat.lt_irrefl _))⟩
        by_cases hik : i = k
        · subst hik
          refine ⟨x, HGX.out, ?_⟩
          rw [Array.getElem?_setIfInBounds, if_pos rfl, if_pos (by omega)]
        · obtain ⟨y, h1, h2⟩ := HCU.out i (by omega)
          refine ⟨y, h1, ?_⟩
          rw [Array.getElem?_setIfInBounds, if_neg (fun e => hik e.symm)]
          exact h2
    · have hke : k = l.length := by omega
      have hS : Sees wr (.slice (some ⟨w.heap.size, 0, none⟩) l.length l.length) ((l.map fun x => (⟨(printM x).toArray⟩ : ByteArray)).map Value.string) := by
        refine ⟨some ⟨w.heap.size, 0, none⟩, l.length, by simp, by simp, fun _ => ⟨w.heap.size, 0, rfl, hb.lt, fun j u hu => ?_⟩⟩
        rw [Nat.zero_add]
        refine hb.cell j u ?_
        rw [List.map_map, List.getElem?_map] at hu
        cases hlj : l[j]? with
        | none => rw [hlj] at hu; cases hu
        | some x =>
          rw [hlj] at hu
          have hj : j < k := by rw [hke]; exact (List.getElem?_eq_some_iff.1 hlj).1
          obtain ⟨y, h1, h2⟩ := hcur j hj
          rw [hlj] at h1
          cases h1
          rw [h2]
          exact hu
      have hmm : (l.map fun x => (⟨(printM x).toArray⟩ : ByteArray)).map (fun p => p.data.toList) = l.map printM := by rw [List.map_map]; rfl
      have hJ := join_c _ _ wr hS (by simpa using hn) (by rw [hmm]; exact printed_len HR.out)
      rw [hmm] at hJ
      have HJ := Lib.hid hJ
      clear hJ hS hmm hcur hcells hmk
      subst hke
      go_wp2_with fail
      refine HJ.out.mono ?_
      rintro e w1 ⟨rfl, rfl⟩
      go_wp2_with fail
      go_ret
      exact ⟨rfl, hO⟩
end Go.Proofs.Ytpegbplppfbomaa
