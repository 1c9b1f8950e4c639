/- The law's argument that is an event. The law's arguments that are a setup, and a slice of events. No statement is proved here. -/
import Derived.Test.YtlilhdkaaendlaaLinesA
import Derived.Test.YtlilhdkaaendlaaLaw
import Derived.Test.YtlilhdkaaendlaaApp
import Derived.Test.YtlilhdkaaendlaaWriteS

namespace Go.Proofs.Ytlilhdkaaendlaa
open Go.ChangeShapes Go.WideShapes Go.ChangeAt Go.RowKit Go.Deep

theorem wf_u8_bd {x : Int} (h : (Lit.int .u8 x).wf = true) : 0 ≤ x ∧ x ≤ 255 := by
  simp [Lit.wf, IntKind.min, IntKind.max, IntKind.signed, IntKind.bits] at h; omega
theorem wf_u16_bd {x : Int} (h : (Lit.int .u16 x).wf = true) : 0 ≤ x ∧ x ≤ 65535 := by
  simp [Lit.wf, IntKind.min, IntKind.max, IntKind.signed, IntKind.bits] at h; omega
theorem wf_i64_bd {x : Int} (h : (Lit.int .i64 x).wf = true) : -9223372036854775808 ≤ x ∧ x ≤ 9223372036854775807 := by
  simp [Lit.wf, IntKind.min, IntKind.max, IntKind.signed, IntKind.bits] at h; omega
theorem c_int : Try.prog.cellsOf 3 = 1 := by kernel_rfl
theorem c_u8 : Try.prog.cellsOf 5 = 1 := by kernel_rfl
theorem c_u16 : Try.prog.cellsOf 47 = 1 := by kernel_rfl
theorem c_name : Try.prog.cellsOf 49 = 8 := by kernel_rfl
theorem c_op : Try.prog.cellsOf 51 = 19 := by kernel_rfl
theorem c_u8s : Try.prog.cellsOf 52 = 1 := by kernel_rfl
theorem c_ev : Try.prog.cellsOf 54 = 25 := by kernel_rfl
theorem byte_of {x : Int} (h : 0 ≤ x ∧ x ≤ 255) : Value.int .u8 x = .int .u8 ((UInt8.ofNat x.toNat).toNat : Int) := by
  rw [UInt8.toNat_ofNat', Nat.mod_eq_of_lt (by omega)]
  exact congrArg (Value.int .u8) (by omega)
section
variable {H : Type} {enc : TypeId × Value → H} {W : World} {base : Nat} {spare : Nat → Bool} {held : Bool}
set_option maxRecDepth 100000 in
theorem read_name {fuel : Nat} {cs : List Value} {x : DataW H × List MemPlace} (hl : cs.length = 8) (h : DataW.trod enc Try.prog W base spare held fuel 49 cs = some x) : ∃ n : List UInt8, n.length = 8 ∧ cs = bys n := by
  obtain ⟨xs, m, -, -, -, hlen, hi⟩ := DataW.trod_array Try.underlying49 h
  simp only [c_u8] at hi
  have key : ∀ j, j < 8 → ∃ b : UInt8, (cs.drop (j * 1)).take 1 = [.int .u8 (b.toNat : Int)] := by
    intro j hj
    have hg := hi j hj
    obtain ⟨y, e, -, wf⟩ := DataW.trod_int Try.underlying5 (hg.trans (List.getElem?_eq_getElem (by omega)))
    exact ⟨_, e.trans (by rw [byte_of (wf_u8_bd wf)])⟩
  match cs, hl with
  | [a0, a1, a2, a3, a4, a5, a6, a7], _ =>
    obtain ⟨b0, e0⟩ := key 0 (by omega)
    obtain ⟨b1, e1⟩ := key 1 (by omega)
    obtain ⟨b2, e2⟩ := key 2 (by omega)
    obtain ⟨b3, e3⟩ := key 3 (by omega)
    obtain ⟨b4, e4⟩ := key 4 (by omega)
    obtain ⟨b5, e5⟩ := key 5 (by omega)
    obtain ⟨b6, e6⟩ := key 6 (by omega)
    obtain ⟨b7, e7⟩ := key 7 (by omega)
    simp at e0 e1 e2 e3 e4 e5 e6 e7
    exact ⟨[b0, b1, b2, b3, b4, b5, b6, b7], rfl, by rw [e0, e1, e2, e3, e4, e5, e6, e7]; rfl⟩
set_option maxRecDepth 100000 in
theorem read_bytes {fuel : Nat} {c : Value} {x : DataW H × List MemPlace} (h : DataW.trod enc Try.prog W base spare held fuel 52 [c] = some x) : ∃ (a : Option Addr) (l : List UInt8) (cap : Nat), c = .slice a l.length cap ∧ Sees W c (bys l) := by
  rcases open_ints Try.underlying52 Try.underlying5 c_u8 h with ⟨hcs, -⟩ | ⟨a', len', cap', zs, hcs, -, hl, hm, hz, hx, hc, hw⟩
  · simp only [List.cons.injEq, and_true] at hcs
    subst hcs
    exact ⟨none, [], 0, rfl, Sees.nil _ _ _⟩
  · simp only [List.cons.injEq, and_true] at hcs
    subst hcs
    have hzl : len' ≤ zs.length := by rw [hz]; split <;> omega
    have hll : (zs.take len').length = len' := by rw [List.length_take]; omega
    have hbl : (bys ((zs.take len').map fun z => UInt8.ofNat z.toNat)).length = len' := by rw [bys_len, List.length_map, hll]
    refine ⟨some a', (zs.take len').map (fun z => UInt8.ofNat z.toNat), cap', by rw [List.length_map, hll], ⟨some a', cap', by rw [hbl], by rw [hbl]; exact hl, fun hp => ?_⟩⟩
    rw [hbl] at hp
    obtain ⟨b, off, rfl, hcell⟩ := ints_at hc (by omega)
    refine ⟨b, off, rfl, ?_, fun j u hu => ?_⟩
    · have := World.block_lt_of_cell? W _ (hcell 0 (by omega))
      exact this
    · have hj : j < len' := by
        have := (List.getElem?_eq_some_iff.1 hu).1
        rw [hbl] at this
        exact this
      rw [hcell j (by omega)]
      have hzj : zs[j]? = some (zs.getD j 0) := by rw [List.getD_eq_getElem?_getD, List.getElem?_eq_getElem (by omega)]; rfl
      have hin : zs.getD j 0 ∈ zs := List.mem_of_getElem? hzj
      have hb := wf_u8_bd (hw _ hin)
      have hg : (bys ((zs.take len').map fun z => UInt8.ofNat z.toNat))[j]? = some (.int .u8 ((UInt8.ofNat (zs.getD j 0).toNat).toNat : Int)) := by
        refine bys_get ?_
        rw [List.getElem?_map, List.getElem?_take, if_pos hj, hzj]
        rfl
      rw [hg] at hu
      rw [← Option.some.inj hu, ← byte_of hb]
set_option maxRecDepth 100000 in
theorem read_op {fuel : Nat} {cs : List Value} {x : DataW H × List MemPlace} (hl : cs.length = 19) (h : DataW.trod enc Try.prog W base spare held fuel 51 cs = some x) :
    ∃ (k c n : Int) (i t : List UInt8), cs = opL k c i n t ∧ i.length = 8 ∧ t.length = 8 ∧ (0 ≤ c ∧ c ≤ 65535) ∧ (-9223372036854775808 ≤ n ∧ n ≤ 9223372036854775807) := by
  obtain ⟨xs, m, -, -, -, hlen, hf⟩ := DataW.trod_struct Try.underlying51 h
  have hx : ∀ j, j < 5 → xs[j]? = some (xs.getD j (.nil, [])) := fun j hj => by
    have : xs.length = 5 := hlen
    rw [List.getD_eq_getElem?_getD, List.getElem?_eq_getElem (by omega)]
    rfl
  have f0 : DataW.trod enc Try.prog W base spare held m 3 ((cs.drop 0).take (Try.prog.cellsOf 3)) = some (xs.getD 0 (.nil, [])) := (hf 0 _ rfl).trans (hx 0 (by omega))
  rw [c_int] at f0
  have f1 : DataW.trod enc Try.prog W base spare held m 47 ((cs.drop 1).take (Try.prog.cellsOf 47)) = some (xs.getD 1 (.nil, [])) := (hf 1 _ rfl).trans (hx 1 (by omega))
  rw [c_u16] at f1
  have f2 : DataW.trod enc Try.prog W base spare held m 49 ((cs.drop 2).take (Try.prog.cellsOf 49)) = some (xs.getD 2 (.nil, [])) := (hf 2 _ rfl).trans (hx 2 (by omega))
  rw [c_name] at f2
  have f3 : DataW.trod enc Try.prog W base spare held m 3 ((cs.drop 10).take (Try.prog.cellsOf 3)) = some (xs.getD 3 (.nil, [])) := (hf 3 _ rfl).trans (hx 3 (by omega))
  rw [c_int] at f3
  have f4 : DataW.trod enc Try.prog W base spare held m 49 ((cs.drop 11).take (Try.prog.cellsOf 49)) = some (xs.getD 4 (.nil, [])) := (hf 4 _ rfl).trans (hx 4 (by omega))
  rw [c_name] at f4
  obtain ⟨k, e0, -, w0⟩ := DataW.trod_int Try.underlying3 f0
  obtain ⟨c, e1, -, w1⟩ := DataW.trod_int Try.underlying47 f1
  obtain ⟨i, hi, e2⟩ := read_name (by rw [List.length_take, List.length_drop, hl]; rfl) f2
  obtain ⟨n, e3, -, w3⟩ := DataW.trod_int Try.underlying3 f3
  obtain ⟨t, ht, e4⟩ := read_name (by rw [List.length_take, List.length_drop, hl]; rfl) f4
  refine ⟨k, c, n, i, t, ?_, hi, ht, wf_u16_bd w1, wf_i64_bd w3⟩
  have hd : cs = (cs.drop 0).take 1 ++ ((cs.drop 1).take 1 ++ ((cs.drop 2).take 8 ++ ((cs.drop 10).take 1 ++ (cs.drop 11).take 8))) := by
    match cs, hl with
    | [a0, a1, a2, a3, a4, a5, a6, a7, a8, a9, a10, a11, a12, a13, a14, a15, a16, a17, a18], _ => rfl
  rw [hd, e0, e1, e2, e3, e4]
  simp [opL]
end
set_option maxRecDepth 100000 in
theorem open_ev {H : Type} {enc : TypeId × Value → H} {W : World} {base : Nat} {spare : Nat → Bool} {held : Bool} {v : Value} {d : DataW H} {p : List MemPlace} {r : Reach} {b0 : Nat}
    (hv : Value.okWide Try.prog W r b0 54 v) (h : DataW.Trod enc Try.prog W base spare held 54 v d p) :
    ∃ (e : Ev) (dv : Value), v = evV e dv ∧ Sees W dv (bys e.data) ∧ (e.data.length ≤ 1000 → e.In) ∧ e.Ok := by
  obtain ⟨ca, rfl, hsz⟩ := okWide_struct Try.underlying54 hv
  obtain ⟨cs⟩ := ca
  rw [c_ev] at hsz
  have hl : cs.length = 25 := hsz
  obtain ⟨fuel, hf0⟩ := h
  have hf1 : DataW.trod enc Try.prog W base spare held fuel 54 cs = some (d, p) := hf0
  obtain ⟨xs, m, -, -, -, hlen, hf⟩ := DataW.trod_struct Try.underlying54 hf1
  have hx : ∀ j, j < 7 → xs[j]? = some (xs.getD j (.nil, [])) := fun j hj => by
    have : xs.length = 7 := hlen
    rw [List.getD_eq_getElem?_getD, List.getElem?_eq_getElem (by omega)]
    rfl
  have f0 : DataW.trod enc Try.prog W base spare held m 3 ((cs.drop 0).take (Try.prog.cellsOf 3)) = some (xs.getD 0 (.nil, [])) := (hf 0 _ rfl).trans (hx 0 (by omega))
  rw [c_int] at f0
  have f1 : DataW.trod enc Try.prog W base spare held m 5 ((cs.drop 1).take (Try.prog.cellsOf 5)) = some (xs.getD 1 (.nil, [])) := (hf 1 _ rfl).trans (hx 1 (by omega))
  rw [c_u8] at f1
  have f2 : DataW.trod enc Try.prog W base spare held m 5 ((cs.drop 2).take (Try.prog.cellsOf 5)) = some (xs.getD 2 (.nil, [])) := (hf 2 _ rfl).trans (hx 2 (by omega))
  rw [c_u8] at f2
  have f3 : DataW.trod enc Try.prog W base spare held m 3 ((cs.drop 3).take (Try.prog.cellsOf 3)) = some (xs.getD 3 (.nil, [])) := (hf 3 _ rfl).trans (hx 3 (by omega))
  rw [c_int] at f3
  have f4 : DataW.trod enc Try.prog W base spare held m 3 ((cs.drop 4).take (Try.prog.cellsOf 3)) = some (xs.getD 4 (.nil, [])) := (hf 4 _ rfl).trans (hx 4 (by omega))
  rw [c_int] at f4
  have f5 : DataW.trod enc Try.prog W base spare held m 51 ((cs.drop 5).take (Try.prog.cellsOf 51)) = some (xs.getD 5 (.nil, [])) := (hf 5 _ rfl).trans (hx 5 (by omega))
  rw [c_op] at f5
  have f6 : DataW.trod enc Try.prog W base spare held m 52 ((cs.drop 24).take (Try.prog.cellsOf 52)) = some (xs.getD 6 (.nil, [])) := (hf 6 _ rfl).trans (hx 6 (by omega))
  rw [c_u8s] at f6
  obtain ⟨k, e0, -, w0⟩ := DataW.trod_int Try.underlying3 f0
  obtain ⟨rep, e1, -, w1⟩ := DataW.trod_int Try.underlying5 f1
  obtain ⟨to_, e2, -, w2⟩ := DataW.trod_int Try.underlying5 f2
  obtain ⟨n, e3, -, w3⟩ := DataW.trod_int Try.underlying3 f3
  obtain ⟨at_, e4, -, w4⟩ := DataW.trod_int Try.underlying3 f4
  obtain ⟨ok, cart, on, i, t, e5, hi, ht, wc, wo⟩ := read_op (by rw [List.length_take, List.length_drop, hl]; rfl) f5
  obtain ⟨dv, hdv⟩ : ∃ dv, (cs.drop 24).take 1 = [dv] := by
    match cs, hl with
    | [a0, a1, a2, a3, a4, a5, a6, a7, a8, a9, a10, a11, a12, a13, a14, a15, a16, a17, a18, a19, a20, a21, a22, a23, a24], _ => exact ⟨a24, rfl⟩
  rw [hdv] at f6
  obtain ⟨a, l, cap, e6, hs⟩ := read_bytes f6
  refine ⟨{ kind := k, rep := rep, dest := to_, n := n, at_ := at_, okind := ok, cart := cart, item := i, onN := on, text := t, data := l }, dv, ?_, hs, fun hl2 => ⟨⟨hi, ht⟩, wf_i64_bd w3, wf_i64_bd w4, wo, wf_u8_bd w1, wf_u8_bd w2, wc, hl2⟩, ⟨hi, ht⟩⟩
  have hd : cs = (cs.drop 0).take 1 ++ ((cs.drop 1).take 1 ++ ((cs.drop 2).take 1 ++ ((cs.drop 3).take 1 ++ ((cs.drop 4).take 1 ++ ((cs.drop 5).take 19 ++ (cs.drop 24).take 1))))) := by
    match cs, hl with
    | [a0, a1, a2, a3, a4, a5, a6, a7, a8, a9, a10, a11, a12, a13, a14, a15, a16, a17, a18, a19, a20, a21, a22, a23, a24], _ => rfl
  have hcs : cs = evL { kind := k, rep := rep, dest := to_, n := n, at_ := at_, okind := ok, cart := cart, item := i, onN := on, text := t, data := l } dv := by
    rw [hd, e0, e1, e2, e3, e4, e5, hdv]
    simp [evL, opL]
  rw [hcs]
  rfl
end Go.Proofs.Ytlilhdkaaendlaa

namespace Go.Proofs.Ytlilhdkaaendlaa
open Go.ChangeShapes Go.WideShapes Go.ChangeAt Go.RowKit Go.Deep

set_option maxRecDepth 100000 in
theorem open_elems' {H : Type} {encH : TypeId × Value → H} {W : World} {v : Value} {d : DataW H × List MemPlace} {t e : TypeId} (ht : Try.prog.underlying t = some (.slice e)) {K : Nat} (hK : 0 < K) (hC : Try.prog.cellsOf e = K)
    {α : Type} [Inhabited α] (enc : α → List Value) (good : α → Prop) (hlen : ∀ x, (enc x).length = K)
    (hread : ∀ (n : Nat) (cs : List Value) (y : DataW H × List MemPlace), cs.length = K → DataW.trod encH Try.prog W 0 (fun _ => true) true n e cs = some y → ∃ x, enc x = cs ∧ good x)
    (hv : ∃ a len cap, v = .slice a len cap) (h : ∃ fuel, DataW.trod encH Try.prog W 0 (fun _ => true) true fuel t [v] = some d) :
    ∃ (a : Option Addr) (l : List α) (cap : Nat), v = .slice a l.length cap ∧ RdN K W v l.length (fl enc l) ∧ ∀ x ∈ l, good x := by
  obtain ⟨a, len, cap, rfl⟩ := hv
  obtain ⟨fuel, hf⟩ := h
  rcases open_slice ht hf with ⟨hcs, -⟩ | ⟨a', len', cap', m, k, D, Pl, hcs, hb, hl, hm, hmm, hx, hi⟩
  · simp at hcs
    obtain ⟨rfl, rfl, rfl⟩ := hcs
    exact ⟨none, [], 0, rfl, ⟨none, 0, rfl, Nat.le_refl _, by simp, fun h => absurd h (by simp)⟩, by simp⟩
  · simp only [List.cons.injEq, Value.slice.injEq, and_true] at hcs
    obtain ⟨rfl, rfl, rfl⟩ := hcs
    have hlm : len ≤ m := by rw [hmm]; split <;> omega
    have key : ∀ i, i < len → ∃ x, good x ∧ ∀ j u, (enc x)[j]? = some u → W.cell? ((a'.add (i * K)).add j) = some u := by
      intro i hil
      obtain ⟨cs, hc, ht⟩ := hi i (by omega)
      rw [hC] at hc
      obtain ⟨-, hcl, hat⟩ := World.cells?_some hc
      obtain ⟨x, hx, hg⟩ := hread _ cs _ hcl ht
      refine ⟨x, hg, fun j u hu => ?_⟩
      have hj : j < K := by rw [← hlen x]; exact (List.getElem?_eq_some_iff.1 hu).1
      have := hat j hj
      rw [this, ← hx]
      exact hu
    classical
    let f : Nat → α := fun i => if h : i < len then Classical.choose (key i h) else default
    have hfk : ∀ i, i < len → good (f i) ∧ ∀ j u, (enc (f i))[j]? = some u → W.cell? ((a'.add (i * K)).add j) = some u := by
      intro i h
      have := Classical.choose_spec (key i h)
      simpa only [f, dif_pos h] using this
    clear_value f
    refine ⟨some a', (List.range len).map f, cap, by simp, ⟨some a', cap, by simp, by simpa using hl, by rw [fl_len hlen], fun hp => ?_⟩, fun x hx => ?_⟩
    · simp only [List.length_map, List.length_range] at hp
      obtain ⟨b, off, spot⟩ := a'
      have h0 : ∃ u, (enc (f 0))[0]? = some u := ⟨_, List.getElem?_eq_getElem (by rw [hlen]; exact hK)⟩
      obtain ⟨u0, hu0⟩ := h0
      have hc0 := (hfk 0 hp).2 0 u0 hu0
      have hspot : spot = none := by simpa [Addr.add] using World.cell?_spot hc0
      subst hspot
      refine ⟨b, off, rfl, by have := World.block_lt_of_cell? W _ hc0; simpa [Addr.add] using this, fun j u hu => ?_⟩
      have hjl : j < len * K := by
        have := (List.getElem?_eq_some_iff.1 hu).1
        rw [fl_len hlen] at this
        simpa using this
      have hd : j = j / K * K + j % K := by rw [Nat.mul_comm]; exact (Nat.div_add_mod j K).symm
      have hq : j / K < len := Nat.div_lt_of_lt_mul (by rw [Nat.mul_comm]; exact hjl)
      have hr := Nat.mod_lt j hK
      have hu2 : (enc (f (j / K)))[j % K]? = some u := by
        have h1 := fl_get (enc := enc) hlen (l := (List.range len).map f) (i := j / K) (j := j % K) (by simpa using hq) hr
        rw [← hd, hu] at h1
        simpa using h1.symm
      have := (hfk _ hq).2 _ u hu2
      rw [add_none (a := ⟨b, off, none⟩) rfl, add_none (a := ⟨b, off + j / K * K, none⟩) rfl] at this
      simpa [Nat.add_assoc, ← hd] using this
    · obtain ⟨i, hi', rfl⟩ := List.mem_map.1 hx
      exact (hfk i (List.mem_range.1 hi')).1
theorem c_bool : Try.prog.cellsOf 4 = 1 := by kernel_rfl
theorem c_u64 : Try.prog.cellsOf 26 = 1 := by kernel_rfl
theorem c_g : Try.prog.cellsOf 36 = 4 := by kernel_rfl
theorem c_rr : Try.prog.cellsOf 38 = 5 := by kernel_rfl
theorem c_prs : Try.prog.cellsOf 35 = 1 := by kernel_rfl
theorem c_pr : Try.prog.cellsOf 88 = 2 := by kernel_rfl
theorem c_su : Try.prog.cellsOf 40 = 7 := by kernel_rfl
theorem wf_u64_bd {x : Int} (h : (Lit.int .u64 x).wf = true) : 0 ≤ x ∧ x ≤ 18446744073709551615 := by
  simp [Lit.wf, IntKind.min, IntKind.max, IntKind.signed, IntKind.bits] at h; omega
section
variable {H : Type} {enc : TypeId × Value → H} {W : World} {base : Nat} {spare : Nat → Bool} {held : Bool}
set_option maxRecDepth 100000 in
theorem read_ev {fuel : Nat} {cs : List Value} {x : DataW H × List MemPlace} (hl : cs.length = 25) (hf1 : DataW.trod enc Try.prog W base spare held fuel 54 cs = some x) :
    ∃ (e : Ev) (dv : Value), cs = evL e dv ∧ Sees W dv (bys e.data) ∧ (e.data.length ≤ 1000 → e.In) ∧ e.Ok := by
  obtain ⟨xs, m, -, -, -, hlen, hf⟩ := DataW.trod_struct Try.underlying54 hf1
  have hx : ∀ j, j < 7 → xs[j]? = some (xs.getD j (.nil, [])) := fun j hj => by
    have : xs.length = 7 := hlen
    rw [List.getD_eq_getElem?_getD, List.getElem?_eq_getElem (by omega)]
    rfl
  have f0 : DataW.trod enc Try.prog W base spare held m 3 ((cs.drop 0).take (Try.prog.cellsOf 3)) = some (xs.getD 0 (.nil, [])) := (hf 0 _ rfl).trans (hx 0 (by omega))
  rw [c_int] at f0
  have f1 : DataW.trod enc Try.prog W base spare held m 5 ((cs.drop 1).take (Try.prog.cellsOf 5)) = some (xs.getD 1 (.nil, [])) := (hf 1 _ rfl).trans (hx 1 (by omega))
  rw [c_u8] at f1
  have f2 : DataW.trod enc Try.prog W base spare held m 5 ((cs.drop 2).take (Try.prog.cellsOf 5)) = some (xs.getD 2 (.nil, [])) := (hf 2 _ rfl).trans (hx 2 (by omega))
  rw [c_u8] at f2
  have f3 : DataW.trod enc Try.prog W base spare held m 3 ((cs.drop 3).take (Try.prog.cellsOf 3)) = some (xs.getD 3 (.nil, [])) := (hf 3 _ rfl).trans (hx 3 (by omega))
  rw [c_int] at f3
  have f4 : DataW.trod enc Try.prog W base spare held m 3 ((cs.drop 4).take (Try.prog.cellsOf 3)) = some (xs.getD 4 (.nil, [])) := (hf 4 _ rfl).trans (hx 4 (by omega))
  rw [c_int] at f4
  have f5 : DataW.trod enc Try.prog W base spare held m 51 ((cs.drop 5).take (Try.prog.cellsOf 51)) = some (xs.getD 5 (.nil, [])) := (hf 5 _ rfl).trans (hx 5 (by omega))
  rw [c_op] at f5
  have f6 : DataW.trod enc Try.prog W base spare held m 52 ((cs.drop 24).take (Try.prog.cellsOf 52)) = some (xs.getD 6 (.nil, [])) := (hf 6 _ rfl).trans (hx 6 (by omega))
  rw [c_u8s] at f6
  obtain ⟨k, e0, -, w0⟩ := DataW.trod_int Try.underlying3 f0
  obtain ⟨rep, e1, -, w1⟩ := DataW.trod_int Try.underlying5 f1
  obtain ⟨to_, e2, -, w2⟩ := DataW.trod_int Try.underlying5 f2
  obtain ⟨n, e3, -, w3⟩ := DataW.trod_int Try.underlying3 f3
  obtain ⟨at_, e4, -, w4⟩ := DataW.trod_int Try.underlying3 f4
  obtain ⟨ok, cart, on, i, t, e5, hi, ht, wc, wo⟩ := read_op (by rw [List.length_take, List.length_drop, hl]; rfl) f5
  obtain ⟨dv, hdv⟩ : ∃ dv, (cs.drop 24).take 1 = [dv] := by
    match cs, hl with
    | [a0, a1, a2, a3, a4, a5, a6, a7, a8, a9, a10, a11, a12, a13, a14, a15, a16, a17, a18, a19, a20, a21, a22, a23, a24], _ => exact ⟨a24, rfl⟩
  rw [hdv] at f6
  obtain ⟨a, l, cap, e6, hs⟩ := read_bytes f6
  refine ⟨{ kind := k, rep := rep, dest := to_, n := n, at_ := at_, okind := ok, cart := cart, item := i, onN := on, text := t, data := l }, dv, ?_, hs, fun hl2 => ⟨⟨hi, ht⟩, wf_i64_bd w3, wf_i64_bd w4, wo, wf_u8_bd w1, wf_u8_bd w2, wc, hl2⟩, ⟨hi, ht⟩⟩
  have hd : cs = (cs.drop 0).take 1 ++ ((cs.drop 1).take 1 ++ ((cs.drop 2).take 1 ++ ((cs.drop 3).take 1 ++ ((cs.drop 4).take 1 ++ ((cs.drop 5).take 19 ++ (cs.drop 24).take 1))))) := by
    match cs, hl with
    | [a0, a1, a2, a3, a4, a5, a6, a7, a8, a9, a10, a11, a12, a13, a14, a15, a16, a17, a18, a19, a20, a21, a22, a23, a24], _ => rfl
  have hcs : cs = evL { kind := k, rep := rep, dest := to_, n := n, at_ := at_, okind := ok, cart := cart, item := i, onN := on, text := t, data := l } dv := by
    rw [hd, e0, e1, e2, e3, e4, e5, hdv]
    simp [evL, opL]
  exact hcs
theorem read_pair {fuel : Nat} {cs : List Value} {x : DataW H × List MemPlace} (hl : cs.length = 2) (h : DataW.trod enc Try.prog W base spare held fuel 88 cs = some x) : ∃ p : Int × Int, [Value.int .u8 p.1, .int .u8 p.2] = cs ∧ (0 ≤ p.1 ∧ p.1 ≤ 255) ∧ (0 ≤ p.2 ∧ p.2 ≤ 255) := by
  obtain ⟨xs, m, -, -, -, hlen, hi⟩ := DataW.trod_array Try.underlying88 h
  simp only [c_u8] at hi
  match cs, hl with
  | [a0, a1], _ =>
    obtain ⟨b0, e0, -, w0⟩ := DataW.trod_int Try.underlying5 ((hi 0 (by omega)).trans (List.getElem?_eq_getElem (by omega)))
    obtain ⟨b1, e1, -, w1⟩ := DataW.trod_int Try.underlying5 ((hi 1 (by omega)).trans (List.getElem?_eq_getElem (by omega)))
    simp at e0 e1
    exact ⟨(b0, b1), by rw [e0, e1], wf_u8_bd w0, wf_u8_bd w1⟩
set_option maxRecDepth 100000 in
theorem read_rules {fuel : Nat} {cs : List Value} {x : DataW H × List MemPlace} (hl : cs.length = 5) (h : DataW.trod enc Try.prog W base spare held fuel 38 cs = some x) :
    ∃ (back red : Bool) (room budget seed : Int), cs = [.bool back, .bool red, .int .i64 room, .int .i64 budget, .int .u64 seed] ∧ (-9223372036854775808 ≤ room ∧ room ≤ 9223372036854775807) ∧ (-9223372036854775808 ≤ budget ∧ budget ≤ 9223372036854775807) ∧ (0 ≤ seed ∧ seed ≤ 18446744073709551615) := by
  obtain ⟨xs, m, -, -, -, hlen, hf⟩ := DataW.trod_struct Try.underlying38 h
  have hx : ∀ j, j < 2 → xs[j]? = some (xs.getD j (.nil, [])) := fun j hj => by
    have : xs.length = 2 := hlen
    rw [List.getD_eq_getElem?_getD, List.getElem?_eq_getElem (by omega)]
    rfl
  have f0 : DataW.trod enc Try.prog W base spare held m 36 ((cs.drop 0).take (Try.prog.cellsOf 36)) = some (xs.getD 0 (.nil, [])) := (hf 0 _ rfl).trans (hx 0 (by omega))
  rw [c_g] at f0
  have f1 : DataW.trod enc Try.prog W base spare held m 26 ((cs.drop 4).take (Try.prog.cellsOf 26)) = some (xs.getD 1 (.nil, [])) := (hf 1 _ rfl).trans (hx 1 (by omega))
  rw [c_u64] at f1
  obtain ⟨seed, e1, -, ws⟩ := DataW.trod_int Try.underlying26 f1
  obtain ⟨ys, m2, -, -, -, hlen2, hg⟩ := DataW.trod_struct Try.underlying36 f0
  have hy : ∀ j, j < 4 → ys[j]? = some (ys.getD j (.nil, [])) := fun j hj => by
    have : ys.length = 4 := hlen2
    rw [List.getD_eq_getElem?_getD, List.getElem?_eq_getElem (by omega)]
    rfl
  match cs, hl with
  | [a0, a1, a2, a3, a4], _ =>
    have g0 : DataW.trod enc Try.prog W base spare held m2 4 [a0] = some (ys.getD 0 (.nil, [])) := (hg 0 _ rfl).trans (hy 0 (by omega))
    have g1 : DataW.trod enc Try.prog W base spare held m2 4 [a1] = some (ys.getD 1 (.nil, [])) := (hg 1 _ rfl).trans (hy 1 (by omega))
    have g2 : DataW.trod enc Try.prog W base spare held m2 3 [a2] = some (ys.getD 2 (.nil, [])) := (hg 2 _ rfl).trans (hy 2 (by omega))
    have g3 : DataW.trod enc Try.prog W base spare held m2 3 [a3] = some (ys.getD 3 (.nil, [])) := (hg 3 _ rfl).trans (hy 3 (by omega))
    obtain ⟨back, h0, -⟩ := DataW.trod_bool Try.underlying4 g0
    obtain ⟨red, h1, -⟩ := DataW.trod_bool Try.underlying4 g1
    obtain ⟨room, h2, -, w2⟩ := DataW.trod_int Try.underlying3 g2
    obtain ⟨budget, h3, -, w3⟩ := DataW.trod_int Try.underlying3 g3
    simp at h0 h1 h2 h3 e1
    exact ⟨back, red, room, budget, seed, by rw [h0, h1, h2, h3, e1], wf_i64_bd w2, wf_i64_bd w3, wf_u64_bd ws⟩
end
theorem fl_prC (l : List (Int × Int)) : fl (fun p : Int × Int => [Value.int .u8 p.1, .int .u8 p.2]) l = prC l := rfl
set_option maxRecDepth 100000 in
theorem open_su {H : Type} {enc : TypeId × Value → H} {W : World} {v : Value} {d : DataW H} {p : List MemPlace} {r : Reach} {b0 : Nat}
    (hv : Value.okWide Try.prog W r b0 40 v) (h : DataW.Trod enc Try.prog W 0 (fun _ => true) true 40 v d p) :
    ∃ (s : Su) (pv : Value), v = suV s pv ∧ PrS W pv s.pairs ∧ s.In := by
  obtain ⟨ca, rfl, hsz⟩ := okWide_struct Try.underlying40 hv
  obtain ⟨cs⟩ := ca
  rw [c_su] at hsz
  have hl : cs.length = 7 := hsz
  obtain ⟨fuel, hf0⟩ := h
  have hf1 : DataW.trod enc Try.prog W 0 (fun _ => true) true fuel 40 cs = some (d, p) := hf0
  obtain ⟨xs, m, -, -, -, hlen, hf⟩ := DataW.trod_struct Try.underlying40 hf1
  have hx : ∀ j, j < 3 → xs[j]? = some (xs.getD j (.nil, [])) := fun j hj => by
    have : xs.length = 3 := hlen
    rw [List.getD_eq_getElem?_getD, List.getElem?_eq_getElem (by omega)]
    rfl
  match cs, hl with
  | [a0, a1, a2, a3, a4, a5, a6], _ =>
    have f0 : DataW.trod enc Try.prog W 0 (fun _ => true) true m 3 [a0] = some (xs.getD 0 (.nil, [])) := (hf 0 _ rfl).trans (hx 0 (by omega))
    have f1 : DataW.trod enc Try.prog W 0 (fun _ => true) true m 35 [a1] = some (xs.getD 1 (.nil, [])) := (hf 1 _ rfl).trans (hx 1 (by omega))
    have f2 : DataW.trod enc Try.prog W 0 (fun _ => true) true m 38 [a2, a3, a4, a5, a6] = some (xs.getD 2 (.nil, [])) := (hf 2 _ rfl).trans (hx 2 (by omega))
    obtain ⟨n, e0, -, w0⟩ := DataW.trod_int Try.underlying3 f0
    obtain ⟨back, red, room, budget, seed, e2, w1, w2, w3⟩ := read_rules rfl f2
    have hsl : ∃ a len cap, a1 = .slice a len cap := by
      rcases open_slice Try.underlying35 f1 with ⟨hq, -⟩ | ⟨a', len', cap', _, _, _, _, hq, -⟩
      · exact ⟨none, 0, 0, by simpa using hq⟩
      · exact ⟨_, _, _, by simpa using hq⟩
    obtain ⟨aa, len, cap, rfl⟩ := hsl
    obtain ⟨a, l, cap2, hv1, hrd, hg⟩ := open_elems' (encH := enc) (W := W) Try.underlying35 (K := 2) (by decide) c_pr (fun p : Int × Int => [Value.int .u8 p.1, .int .u8 p.2]) (fun p => (0 ≤ p.1 ∧ p.1 ≤ 255) ∧ (0 ≤ p.2 ∧ p.2 ≤ 255)) (fun _ => rfl)
      (fun n cs y hl h => by obtain ⟨p, h1, h2⟩ := read_pair hl h; exact ⟨p, h1, h2⟩) (v := .slice aa len cap) ⟨_, _, _, rfl⟩ ⟨m, f1⟩
    simp only [List.cons.injEq, and_true] at e0 e2
    obtain ⟨rfl, rfl, rfl, rfl, rfl⟩ := e2
    subst e0
    refine ⟨⟨n, l, back, red, room, budget, seed⟩, .slice aa len cap, rfl, ?_, ⟨wf_i64_bd w0, w1, w2, w3, hg⟩⟩
    obtain ⟨a', cap', h1, h2, h3, h4⟩ := hrd
    exact ⟨a', cap', h1, h2, h4⟩
set_option maxRecDepth 100000 in
theorem open_es {H : Type} {enc : TypeId × Value → H} {W : World} {v : Value} {d : DataW H} {p : List MemPlace} {r : Reach} {b0 : Nat}
    (hv : Value.okWide Try.prog W r b0 41 v) (h : DataW.Trod enc Try.prog W 0 (fun _ => true) true 41 v d p) :
    ∃ (a : Option Addr) (cap : Nat) (es : List (Ev × Value)), v = .slice a es.length cap ∧ es.length ≤ cap ∧ (∀ i (h : i < es.length), ∃ b off, a = some ⟨b, off, none⟩ ∧ b < W.heap.size ∧ W.rangeAt b (off + i * 25) (evL es[i].1 es[i].2)) ∧
      ∀ x ∈ es, (x.1.data.length ≤ 1000 → x.1.In) ∧ x.1.Ok ∧ Sees W x.2 (bys x.1.data) := by
  haveI : Inhabited {x : Ev × Value // x.1.Ok} := ⟨⟨({}, .slice none 0 0), Ev.ok0⟩⟩
  obtain ⟨a, l, cap, hv1, hrd, hg⟩ := open_elems (encH := enc) (W := W) Try.underlying41 (K := 25) (by decide) c_ev (α := {x : Ev × Value // x.1.Ok}) (fun x => evL x.1.1 x.1.2)
    (fun x => (x.1.1.data.length ≤ 1000 → x.1.1.In) ∧ Sees W x.1.2 (bys x.1.1.data)) (fun x => evA_size x.2 _)
    (fun n cs y hl h => by obtain ⟨e, dv, h1, h2, h3, h4⟩ := read_ev hl h; exact ⟨⟨(e, dv), h4⟩, h1.symm, h3, h2⟩) hv h
  refine ⟨a, cap, l.map (·.1), by rw [List.length_map]; exact hv1, ?_, fun i hi => ?_, fun x hx => ?_⟩
  · obtain ⟨a', cap', h1, h2, -⟩ := hrd
    rw [hv1] at h1
    simp only [Value.slice.injEq] at h1
    rw [List.length_map]
    omega
  · have hil : i < l.length := by simpa using hi
    obtain ⟨a', cap', h1, h2, h3, h4⟩ := hrd
    rw [hv1] at h1
    simp only [Value.slice.injEq] at h1
    obtain ⟨rfl, -, rfl⟩ := h1
    obtain ⟨b, off, rfl, hb, hc⟩ := h4 (by omega)
    refine ⟨b, off, rfl, hb, fun j u hu => ?_⟩
    have hj : j < 25 := by
      have := (List.getElem?_eq_some_iff.1 hu).1
      simp only [List.getElem_map] at this
      rw [show (evL l[i].1.1 l[i].1.2).length = 25 from evA_size l[i].2 _] at this
      exact this
    have hq := fl_get (enc := fun x : {x : Ev × Value // x.1.Ok} => evL x.1.1 x.1.2) (fun x => evA_size x.2 _) (l := l) (i := i) (j := j) hil hj
    have := hc (i * 25 + j) u (by rw [hq]; simpa using hu)
    rw [Nat.add_assoc]
    exact this
  · obtain ⟨y, hy, rfl⟩ := List.mem_map.1 hx
    exact ⟨(hg y hy).1, y.2, (hg y hy).2⟩
theorem evC_at {es : List (Ev × Value)} (hok : ∀ x ∈ es, x.1.Ok) {i : Nat} (h : i < es.length) {j : Nat} {u : Value} (hu : (evL es[i].1 es[i].2)[j]? = some u) : (evC es)[i * 25 + j]? = some u := by
  induction es generalizing i with
  | nil => simp at h
  | cons x es ih =>
    have e : evC (x :: es) = evL x.1 x.2 ++ evC es := rfl
    have hl : (evL x.1 x.2).length = 25 := evA_size (hok x List.mem_cons_self) _
    have hj : j < 25 := by
      have := (List.getElem?_eq_some_iff.1 hu).1
      rw [show (evL _ _).length = 25 from evA_size (hok _ (List.getElem_mem h)) _] at this
      exact this
    cases i with
    | zero =>
      rw [e, List.getElem?_append_left (by omega), Nat.zero_mul, Nat.zero_add]
      exact hu
    | succ i =>
      have := ih (fun y hy => hok y (List.mem_cons_of_mem _ hy)) (i := i) (by simpa using h) hu
      rw [e, List.getElem?_append_right (by omega), hl, show (i + 1) * 25 + j - 25 = i * 25 + j by omega]
      exact this
/-- Events in an argument's memory. -/
def RawEs (w : World) (a : Option Addr) (es : List (Ev × Value)) : Prop := (∀ i (h : i < es.length), ∃ b off, a = some ⟨b, off, none⟩ ∧ b < w.heap.size ∧ w.rangeAt b (off + i * 25) (evL es[i].1 es[i].2)) ∧
  ∀ x ∈ es, (x.1.data.length ≤ 1000 → x.1.In) ∧ x.1.Ok ∧ Sees w x.2 (bys x.1.data)
theorem RawEs.no {w w' : World} {a : Option Addr} {es : List (Ev × Value)} (h : RawEs w a es) (ho : Only No w w') : RawEs w' a es := by
  refine ⟨fun i hi => ?_, fun x hx => ⟨(h.2 x hx).1, (h.2 x hx).2.1, (h.2 x hx).2.2.no ho⟩⟩
  obtain ⟨b, off, rfl, hb, hr⟩ := h.1 i hi
  exact ⟨b, off, rfl, Nat.lt_of_lt_of_le hb ho.size, fun j v hv => (ho.cell (p := ⟨b, off + i * 25 + j, none⟩) hb id).trans (hr j v hv)⟩
def largeB (es : List (Ev × Value)) : Bool := (es.take 90).any (fun x => decide (300 < x.1.data.length)) || decide (90 < es.length)
theorem large_yes {es : List (Ev × Value)} {i : Nat} (h : i < es.length) (h90 : i < 90) (hd : 300 < es[i].1.data.length) : largeB es = true := by
  unfold largeB
  rw [Bool.or_eq_true, List.any_eq_true]
  refine .inl ⟨es[i], ?_, decide_eq_true hd⟩
  rw [List.mem_iff_getElem]
  exact ⟨i, by simp; omega, by simp⟩
theorem large_end {es : List (Ev × Value)} (h : ∀ i (hi : i < es.length), i < 90 → es[i].1.data.length ≤ 300) : largeB es = decide (90 < es.length) := by
  unfold largeB
  have : (es.take 90).any (fun x => decide (300 < x.1.data.length)) = false := by
    rw [List.any_eq_false]
    intro x hx
    obtain ⟨i, hi, rfl⟩ := List.mem_iff_getElem.1 hx
    have hi' : i < 90 ∧ i < es.length := by simp at hi; omega
    have := h i hi'.2 hi'.1
    simp only [List.getElem_take, decide_eq_true_eq]
    omega
  rw [this, Bool.false_or]
theorem large_no {es : List (Ev × Value)} (h : largeB es = false) : es.length ≤ 90 ∧ ∀ x ∈ es, x.1.data.length ≤ 300 := by
  unfold largeB at h
  rw [Bool.or_eq_false_iff] at h
  have hl : es.length ≤ 90 := by have := of_decide_eq_false h.2; omega
  refine ⟨hl, fun x hx => ?_⟩
  have h1 := List.any_eq_false.1 h.1 x (by rw [List.take_of_length_le hl]; exact hx)
  simpa using h1
set_option maxRecDepth 100000 in
set_option maxHeartbeats 1600000 in
theorem rlarge_c (a : Option Addr) (cap : Nat) (es : List (Ev × Value)) (w : World) (h : RawEs w a es) :
    Calls Try.prog 22 #[.slice a es.length cap] w fun x w' => x = .returned (.bool (largeB es)) ∧ w = w' := by
  have HE := Lib.hid h
  obtain ⟨OUT, hOUT⟩ : ∃ o, o = largeB es := ⟨_, rfl⟩
  rw [← hOUT]
  have HOUT := Lib.hid hOUT
  clear h hOUT
  go_enter Try.func22, Try.ntmps22
  go_wp2_with fail
  go_loop [3] (fun v3 => ∃ i : Nat, i ≤ es.length ∧ i ≤ 90 ∧ v3 = .int .i64 i ∧ ∀ j (hj : j < es.length), j < i → es[j].1.data.length ≤ 300) (fun v3 => es.length - (intOf v3).toNat)
  case atStart => exact ⟨0, by omega, by omega, rfl, fun j hj h => by omega⟩
  case round =>
    obtain ⟨i, hi, hi90, rfl, hall⟩ := hrel
    have HAll := Lib.hid hall
    clear hall
    by_cases hlt : i < es.length
    · have hil : (i : Int) < (es.length : Int) := by omega
      by_cases h90 : i < 90
      · have hi9 : (i : Int) < 90 := by omega
        have hi0 : (0 : Int) ≤ (i : Int) := by omega
        obtain ⟨b, off, rfl, hb, hr⟩ := HE.out.1 i hlt
        obtain ⟨-, hok, hdv⟩ := HE.out.2 _ (List.getElem_mem hlt)
        have hcell := hr 24 es[i].2 (by have := evA_data hok es[i].2; simpa [evA] using this)
        obtain ⟨da, dc, hdq, -⟩ := hdv.form
        rw [hdq, bys_len] at hcell
        have HD : Hid (es[i].1.data.length = es[i].1.data.length) := Lib.hid rfl
        by_cases hd : 300 < es[i].1.data.length
        · have HY := Lib.hid (large_yes hlt h90 hd)
          have hdd : (300 : Int) < (es[i].1.data.length : Int) := by omega
          clear hd hr hdv hdq
          go_wp2_with fail
          go_ret
          exact ⟨by rw [HOUT.out, HY.out]; rfl, rfl⟩
        · have HNext : Hid (∀ j (hj : j < es.length), j < i + 1 → es[j].1.data.length ≤ 300) := Lib.hid (fun j hj h => by
            by_cases hji : j = i
            · subst hji; omega
            · exact HAll.out j hj (by omega))
          have hdd : ¬ (300 : Int) < (es[i].1.data.length : Int) := by omega
          clear hd hr hdv hdq
          go_wp2_with fail
          go_round
          case rel => exact ⟨i + 1, by omega, by omega, by go_num, HNext.out⟩
          case measure => simp [intOf]; omega
      · have hi9 : ¬ (i : Int) < 90 := by omega
        have HY := Lib.hid (large_end (es := es) (fun j hj h => HAll.out j hj (by omega)))
        clear h90
        by_cases hg : (90 : Int) < (es.length : Int)
        · go_wp2_with fail
          go_ret
          exact ⟨by rw [HOUT.out, HY.out, decide_eq_true (by omega)]; rfl, rfl⟩
        · have hg2 : decide ((90 : Int) < (es.length : Int)) = false := decide_eq_false hg
          go_wp2_with fail
          go_ret
          exact ⟨by rw [HOUT.out, HY.out, decide_eq_false (by omega)]; rfl, rfl⟩
    · have hil : ¬ (i : Int) < (es.length : Int) := by omega
      have HY := Lib.hid (large_end (es := es) (fun j hj h => HAll.out j hj (by omega)))
      by_cases hg : (90 : Int) < (es.length : Int)
      · go_wp2_with fail
        go_ret
        exact ⟨by rw [HOUT.out, HY.out, decide_eq_true (by omega)]; rfl, rfl⟩
      · have hg2 : decide ((90 : Int) < (es.length : Int)) = false := decide_eq_false hg
        go_wp2_with fail
        go_ret
        exact ⟨by rw [HOUT.out, HY.out, decide_eq_false (by omega)]; rfl, rfl⟩
end Go.Proofs.Ytlilhdkaaendlaa
