/- The law's argument that is an event. No statement is proved here. -/
import Derived.Test.YtlilhdkaaendlaaEventsW
import Derived.Test.YtlilhdkaaendlaaLaw
namespace Go.Proofs.Ytlilhdkaaendlaa
open Go.ChangeShapes Go.WideShapes Go.ChangeAt Go.RowKit Go.Deep

theorem wf_u8_bd {x : Int} (h : (Lit.int .u8 x).wf = true) : 0 ≤ x ∧ x ≤ 255 := by
  simp [Lit.wf, IntKind.min, IntKind.max, IntKind.signed, IntKind.bits] at h; omega
theorem wf_u16_bd {x : Int} (h : (Lit.int .u16 x).wf = true) : 0 ≤ x ∧ x ≤ 65535 := by
  simp [Lit.wf, IntKind.min, IntKind.max, IntKind.signed, IntKind.bits] at h; omega
theorem wf_i64_bd {x : Int} (h : (Lit.int .i64 x).wf = true) : -9223372036854775808 ≤ x ∧ x ≤ 9223372036854775807 := by
  simp [Lit.wf, IntKind.min, IntKind.max, IntKind.signed, IntKind.bits] at h; omega
theorem c_int : Try.prog.cellsOf 3 = 1 := by kernel_rfl
theorem c_u8 : Try.prog.cellsOf 5 = 1 := by kernel_rfl
theorem c_u16 : Try.prog.cellsOf 47 = 1 := by kernel_rfl
theorem c_name : Try.prog.cellsOf 49 = 8 := by kernel_rfl
theorem c_op : Try.prog.cellsOf 51 = 19 := by kernel_rfl
theorem c_u8s : Try.prog.cellsOf 52 = 1 := by kernel_rfl
theorem c_ev : Try.prog.cellsOf 54 = 25 := by kernel_rfl
theorem byte_of {x : Int} (h : 0 ≤ x ∧ x ≤ 255) : Value.int .u8 x = .int .u8 ((UInt8.ofNat x.toNat).toNat : Int) := by
  rw [UInt8.toNat_ofNat', Nat.mod_eq_of_lt (by omega)]
  exact congrArg (Value.int .u8) (by omega)
section
variable {H : Type} {enc : TypeId × Value → H} {W : World} {base : Nat} {spare : Nat → Bool} {held : Bool}
set_option maxRecDepth 100000 in
theorem read_name {fuel : Nat} {cs : List Value} {x : DataW H × List MemPlace} (hl : cs.length = 8) (h : DataW.trod enc Try.prog W base spare held fuel 49 cs = some x) : ∃ n : List UInt8, n.length = 8 ∧ cs = bys n := by
  obtain ⟨xs, m, -, -, -, hlen, hi⟩ := DataW.trod_array Try.underlying49 h
  simp only [c_u8] at hi
  have key : ∀ j, j < 8 → ∃ b : UInt8, (cs.drop (j * 1)).take 1 = [.int .u8 (b.toNat : Int)] := by
    intro j hj
    have hg := hi j hj
    obtain ⟨y, e, -, wf⟩ := DataW.trod_int Try.underlying5 (hg.trans (List.getElem?_eq_getElem (by omega)))
    exact ⟨_, e.trans (by rw [byte_of (wf_u8_bd wf)])⟩
  match cs, hl with
  | [a0, a1, a2, a3, a4, a5, a6, a7], _ =>
    obtain ⟨b0, e0⟩ := key 0 (by omega)
    obtain ⟨b1, e1⟩ := key 1 (by omega)
    obtain ⟨b2, e2⟩ := key 2 (by omega)
    obtain ⟨b3, e3⟩ := key 3 (by omega)
    obtain ⟨b4, e4⟩ := key 4 (by omega)
    obtain ⟨b5, e5⟩ := key 5 (by omega)
    obtain ⟨b6, e6⟩ := key 6 (by omega)
    obtain ⟨b7, e7⟩ := key 7 (by omega)
    simp at e0 e1 e2 e3 e4 e5 e6 e7
    exact ⟨[b0, b1, b2, b3, b4, b5, b6, b7], rfl, by rw [e0, e1, e2, e3, e4, e5, e6, e7]; rfl⟩
set_option maxRecDepth 100000 in
theorem read_bytes {fuel : Nat} {c : Value} {x : DataW H × List MemPlace} (h : DataW.trod enc Try.prog W base spare held fuel 52 [c] = some x) : ∃ (a : Option Addr) (l : List UInt8) (cap : Nat), c = .slice a l.length cap ∧ Sees W c (bys l) := by
  rcases open_ints Try.underlying52 Try.underlying5 c_u8 h with ⟨hcs, -⟩ | ⟨a', len', cap', zs, hcs, -, hl, hm, hz, hx, hc, hw⟩
  · simp only [List.cons.injEq, and_true] at hcs
    subst hcs
    exact ⟨none, [], 0, rfl, Sees.nil _ _ _⟩
  · simp only [List.cons.injEq, and_true] at hcs
    subst hcs
    have hzl : len' ≤ zs.length := by rw [hz]; split <;> omega
    have hll : (zs.take len').length = len' := by rw [List.length_take]; omega
    have hbl : (bys ((zs.take len').map fun z => UInt8.ofNat z.toNat)).length = len' := by rw [bys_len, List.length_map, hll]
    refine ⟨some a', (zs.take len').map (fun z => UInt8.ofNat z.toNat), cap', by rw [List.length_map, hll], ⟨some a', cap', by rw [hbl], by rw [hbl]; exact hl, fun hp => ?_⟩⟩
    rw [hbl] at hp
    obtain ⟨b, off, rfl, hcell⟩ := ints_at hc (by omega)
    refine ⟨b, off, rfl, ?_, fun j u hu => ?_⟩
    · have := World.block_lt_of_cell? W _ (hcell 0 (by omega))
      exact this
    · have hj : j < len' := by
        have := (List.getElem?_eq_some_iff.1 hu).1
        rw [hbl] at this
        exact this
      rw [hcell j (by omega)]
      have hzj : zs[j]? = some (zs.getD j 0) := by rw [List.getD_eq_getElem?_getD, List.getElem?_eq_getElem (by omega)]; rfl
      have hin : zs.getD j 0 ∈ zs := List.mem_of_getElem? hzj
      have hb := wf_u8_bd (hw _ hin)
      have hg : (bys ((zs.take len').map fun z => UInt8.ofNat z.toNat))[j]? = some (.int .u8 ((UInt8.ofNat (zs.getD j 0).toNat).toNat : Int)) := by
        refine bys_get ?_
        rw [List.getElem?_map, List.getElem?_take, if_pos hj, hzj]
        rfl
      rw [hg] at hu
      rw [← Option.some.inj hu, ← byte_of hb]
set_option maxRecDepth 100000 in
theorem read_op {fuel : Nat} {cs : List Value} {x : DataW H × List MemPlace} (hl : cs.length = 19) (h : DataW.trod enc Try.prog W base spare held fuel 51 cs = some x) :
    ∃ (k c n : Int) (i t : List UInt8), cs = opL k c i n t ∧ i.length = 8 ∧ t.length = 8 ∧ (0 ≤ c ∧ c ≤ 65535) ∧ (-9223372036854775808 ≤ n ∧ n ≤ 9223372036854775807) := by
  obtain ⟨xs, m, -, -, -, hlen, hf⟩ := DataW.trod_struct Try.underlying51 h
  have hx : ∀ j, j < 5 → xs[j]? = some (xs.getD j (.nil, [])) := fun j hj => by
    have : xs.length = 5 := hlen
    rw [List.getD_eq_getElem?_getD, List.getElem?_eq_getElem (by omega)]
    rfl
  have f0 : DataW.trod enc Try.prog W base spare held m 3 ((cs.drop 0).take (Try.prog.cellsOf 3)) = some (xs.getD 0 (.nil, [])) := (hf 0 _ rfl).trans (hx 0 (by omega))
  rw [c_int] at f0
  have f1 : DataW.trod enc Try.prog W base spare held m 47 ((cs.drop 1).take (Try.prog.cellsOf 47)) = some (xs.getD 1 (.nil, [])) := (hf 1 _ rfl).trans (hx 1 (by omega))
  rw [c_u16] at f1
  have f2 : DataW.trod enc Try.prog W base spare held m 49 ((cs.drop 2).take (Try.prog.cellsOf 49)) = some (xs.getD 2 (.nil, [])) := (hf 2 _ rfl).trans (hx 2 (by omega))
  rw [c_name] at f2
  have f3 : DataW.trod enc Try.prog W base spare held m 3 ((cs.drop 10).take (Try.prog.cellsOf 3)) = some (xs.getD 3 (.nil, [])) := (hf 3 _ rfl).trans (hx 3 (by omega))
  rw [c_int] at f3
  have f4 : DataW.trod enc Try.prog W base spare held m 49 ((cs.drop 11).take (Try.prog.cellsOf 49)) = some (xs.getD 4 (.nil, [])) := (hf 4 _ rfl).trans (hx 4 (by omega))
  rw [c_name] at f4
  obtain ⟨k, e0, -, w0⟩ := DataW.trod_int Try.underlying3 f0
  obtain ⟨c, e1, -, w1⟩ := DataW.trod_int Try.underlying47 f1
  obtain ⟨i, hi, e2⟩ := read_name (by rw [List.length_take, List.length_drop, hl]; rfl) f2
  obtain ⟨n, e3, -, w3⟩ := DataW.trod_int Try.underlying3 f3
  obtain ⟨t, ht, e4⟩ := read_name (by rw [List.length_take, List.length_drop, hl]; rfl) f4
  refine ⟨k, c, n, i, t, ?_, hi, ht, wf_u16_bd w1, wf_i64_bd w3⟩
  have hd : cs = (cs.drop 0).take 1 ++ ((cs.drop 1).take 1 ++ ((cs.drop 2).take 8 ++ ((cs.drop 10).take 1 ++ (cs.drop 11).take 8))) := by
    match cs, hl with
    | [a0, a1, a2, a3, a4, a5, a6, a7, a8, a9, a10, a11, a12, a13, a14, a15, a16, a17, a18], _ => rfl
  rw [hd, e0, e1, e2, e3, e4]
  simp [opL]
end
set_option maxRecDepth 100000 in
theorem open_ev {H : Type} {enc : TypeId × Value → H} {W : World} {base : Nat} {spare : Nat → Bool} {held : Bool} {v : Value} {d : DataW H} {p : List MemPlace} {r : Reach} {b0 : Nat}
    (hv : Value.okWide Try.prog W r b0 54 v) (h : DataW.Trod enc Try.prog W base spare held 54 v d p) :
    ∃ (e : Ev) (dv : Value), v = evV e dv ∧ Sees W dv (bys e.data) ∧ (e.data.length ≤ 1000 → e.In) ∧ e.Ok := by
  obtain ⟨ca, rfl, hsz⟩ := okWide_struct Try.underlying54 hv
  obtain ⟨cs⟩ := ca
  rw [c_ev] at hsz
  have hl : cs.length = 25 := hsz
  obtain ⟨fuel, hf0⟩ := h
  have hf1 : DataW.trod enc Try.prog W base spare held fuel 54 cs = some (d, p) := hf0
  obtain ⟨xs, m, -, -, -, hlen, hf⟩ := DataW.trod_struct Try.underlying54 hf1
  have hx : ∀ j, j < 7 → xs[j]? = some (xs.getD j (.nil, [])) := fun j hj => by
    have : xs.length = 7 := hlen
    rw [List.getD_eq_getElem?_getD, List.getElem?_eq_getElem (by omega)]
    rfl
  have f0 : DataW.trod enc Try.prog W base spare held m 3 ((cs.drop 0).take (Try.prog.cellsOf 3)) = some (xs.getD 0 (.nil, [])) := (hf 0 _ rfl).trans (hx 0 (by omega))
  rw [c_int] at f0
  have f1 : DataW.trod enc Try.prog W base spare held m 5 ((cs.drop 1).take (Try.prog.cellsOf 5)) = some (xs.getD 1 (.nil, [])) := (hf 1 _ rfl).trans (hx 1 (by omega))
  rw [c_u8] at f1
  have f2 : DataW.trod enc Try.prog W base spare held m 5 ((cs.drop 2).take (Try.prog.cellsOf 5)) = some (xs.getD 2 (.nil, [])) := (hf 2 _ rfl).trans (hx 2 (by omega))
  rw [c_u8] at f2
  have f3 : DataW.trod enc Try.prog W base spare held m 3 ((cs.drop 3).take (Try.prog.cellsOf 3)) = some (xs.getD 3 (.nil, [])) := (hf 3 _ rfl).trans (hx 3 (by omega))
  rw [c_int] at f3
  have f4 : DataW.trod enc Try.prog W base spare held m 3 ((cs.drop 4).take (Try.prog.cellsOf 3)) = some (xs.getD 4 (.nil, [])) := (hf 4 _ rfl).trans (hx 4 (by omega))
  rw [c_int] at f4
  have f5 : DataW.trod enc Try.prog W base spare held m 51 ((cs.drop 5).take (Try.prog.cellsOf 51)) = some (xs.getD 5 (.nil, [])) := (hf 5 _ rfl).trans (hx 5 (by omega))
  rw [c_op] at f5
  have f6 : DataW.trod enc Try.prog W base spare held m 52 ((cs.drop 24).take (Try.prog.cellsOf 52)) = some (xs.getD 6 (.nil, [])) := (hf 6 _ rfl).trans (hx 6 (by omega))
  rw [c_u8s] at f6
  obtain ⟨k, e0, -, w0⟩ := DataW.trod_int Try.underlying3 f0
  obtain ⟨rep, e1, -, w1⟩ := DataW.trod_int Try.underlying5 f1
  obtain ⟨to_, e2, -, w2⟩ := DataW.trod_int Try.underlying5 f2
  obtain ⟨n, e3, -, w3⟩ := DataW.trod_int Try.underlying3 f3
  obtain ⟨at_, e4, -, w4⟩ := DataW.trod_int Try.underlying3 f4
  obtain ⟨ok, cart, on, i, t, e5, hi, ht, wc, wo⟩ := read_op (by rw [List.length_take, List.length_drop, hl]; rfl) f5
  obtain ⟨dv, hdv⟩ : ∃ dv, (cs.drop 24).take 1 = [dv] := by
    match cs, hl with
    | [a0, a1, a2, a3, a4, a5, a6, a7, a8, a9, a10, a11, a12, a13, a14, a15, a16, a17, a18, a19, a20, a21, a22, a23, a24], _ => exact ⟨a24, rfl⟩
  rw [hdv] at f6
  obtain ⟨a, l, cap, e6, hs⟩ := read_bytes f6
  refine ⟨{ kind := k, rep := rep, dest := to_, n := n, at_ := at_, okind := ok, cart := cart, item := i, onN := on, text := t, data := l }, dv, ?_, hs, fun hl2 => ⟨⟨hi, ht⟩, wf_i64_bd w3, wf_i64_bd w4, wo, wf_u8_bd w1, wf_u8_bd w2, wc, hl2⟩, ⟨hi, ht⟩⟩
  have hd : cs = (cs.drop 0).take 1 ++ ((cs.drop 1).take 1 ++ ((cs.drop 2).take 1 ++ ((cs.drop 3).take 1 ++ ((cs.drop 4).take 1 ++ ((cs.drop 5).take 19 ++ (cs.drop 24).take 1))))) := by
    match cs, hl with
    | [a0, a1, a2, a3, a4, a5, a6, a7, a8, a9, a10, a11, a12, a13, a14, a15, a16, a17, a18, a19, a20, a21, a22, a23, a24], _ => rfl
  have hcs : cs = evL { kind := k, rep := rep, dest := to_, n := n, at_ := at_, okind := ok, cart := cart, item := i, onN := on, text := t, data := l } dv := by
    rw [hd, e0, e1, e2, e3, e4, e5, hdv]
    simp [evL, opL]
  rw [hcs]
  rfl
end Go.Proofs.Ytlilhdkaaendlaa
