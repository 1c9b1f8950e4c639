/- The line of an event: the program's. No statement is proved here. -/
import Derived.Test.YtlilhdkaaendlaaAlike
import Derived.Test.YtlilhdkaaendlaaHexW
import Derived.Test.YtlilhdkaaendlaaNamed
import Derived.Test.YtlilhdkaaendlaaRPrint
namespace Go.Proofs.Ytlilhdkaaendlaa
open Go.RowKit

theorem lens_le (L : List (List UInt8)) (M : Nat) (h : ∀ p ∈ L, p.length ≤ M) : Lib.lens L ≤ L.length * M := by
  induction L with
  | nil => simp [Lib.lens]
  | cons a r ih =>
    have h1 := h a (by simp)
    have h2 := ih (fun p hp => h p (by simp [hp]))
    have : Lib.lens (a :: r) = a.length + Lib.lens r := by simp [Lib.lens]
    rw [this, List.length_cons, Nat.succ_mul]
    omega
theorem join_bd (L : List (List UInt8)) (h : ∀ p ∈ L, p.length ≤ 3000) (hn : L.length ≤ 10) : (Lib.join L [32]).length ≤ 1000000 := by
  cases L with
  | nil => simp [Lib.join_nil]
  | cons x r =>
    rw [Lib.join_length]
    have := lens_le (x :: r) 3000 h
    simp only [List.length_cons, List.length_nil] at *
    omega
theorem prt_size (n : Int) (h0 : -9223372036854775808 ≤ n) (h1 : n ≤ 9223372036854775807) : (⟨(printM n).toArray⟩ : ByteArray).size ≤ 3000 := by
  have := printM_len n h0 h1
  show (printM n).toArray.size ≤ 3000
  simp
  omega
theorem wrd_size (n : List UInt8) (h : n.length = 8) : (⟨(wordN n).toArray⟩ : ByteArray).size ≤ 3000 := by
  show (wordN n).toArray.size ≤ 3000
  have : (wordN n).length ≤ 8 := by
    unfold wordN
    split
    · simp
    · unfold ntxt
      exact Nat.le_trans (List.takeWhile_sublist _).length_le (by omega)
  simp
  omega
theorem hex_size (l : List UInt8) (h : l.length ≤ 1000) : (⟨(hexM l).toArray⟩ : ByteArray).size ≤ 3000 := by
  show (hexM l).toArray.size ≤ 3000
  have : (hexM l).length ≤ 2000 := by
    unfold hexM
    split
    · simp
    · rw [hexOut_len]; omega
  simp
  omega
theorem line_new (W : World) (ps : List ByteArray) (hp : 0 < ps.length) (hn : ps.length ≤ 10) (hs : ∀ p ∈ ps, p.size ≤ 3000) :
    Calls Try.prog 49 #[.slice (some ⟨W.heap.size, 0, none⟩) ps.length ps.length] (W.alloc (.cells (ps.map Value.string).toArray 9)) fun x w' => x = .returned (.string ⟨(Lib.join (ps.map (·.data.toList)) [32]).toArray⟩) ∧ Only No W w' := by
  have hl := join_bd (ps.map (·.data.toList)) (fun p hp => by
    obtain ⟨q, hq, rfl⟩ := List.mem_map.1 hp
    exact hs q hq) (by simpa using hn)
  have hB := Blk.new W (ps.map Value.string).toArray 9
  have hO : Only No W (W.alloc (.cells (ps.map Value.string).toArray 9)) := (Only.refl _ _).alloc _
  have HJ := Lib.hid (Try.strings_Join W.heap.size 0 ps.length ps ⟨#[32]⟩ _ (fun j x hx => by rw [Nat.zero_add]; exact hB.cell j _ (by simp [hx])) hB.lt (by omega) (Nat.le_refl _) (by show (Lib.join _ [32]).length ≤ _; omega))
  have HO := Lib.hid hO
  generalize (W.alloc (.cells (ps.map Value.string).toArray 9)) = w1 at *
  go_enter Try.func49, Try.ntmps49
  go_wp2_with fail
  refine HJ.out.mono ?_
  rintro x w2 ⟨rfl, hb⟩
  go_wp2_with fail
  go_ret
  exact ⟨rfl, HO.out.trans (Only.of_below hb)⟩
def wk (k : Nat) : List UInt8 := match k with
  | 1 => [100, 111] | 2 => [103, 111, 115, 115, 105, 112] | 3 => [98, 101, 103, 105, 110] | 4 => [114, 111, 117, 110, 100] | 5 => [99, 111, 109, 101] | 6 => [108, 111, 115, 101] | 7 => [116, 119, 105, 99, 101] | 8 => [115, 112, 111, 105, 108] | 9 => [105, 110, 106, 101, 99, 116] | _ => []
def wo (k : Nat) : List UInt8 := match k with
  | 1 => [97, 100, 100] | 2 => [114, 101, 109, 111, 118, 101] | 3 => [115, 101, 116] | 4 => [119, 114, 105, 116, 101] | 5 => [99, 108, 101, 97, 114] | _ => []
def modeW (n : Int) : List UInt8 := if n = 1 then [99, 101, 108, 108, 115] else if n = 2 then [116, 97, 98, 108, 101] else [119, 104, 111, 108, 101]
/-- The words of an event that has a line; none: it has none. -/
def tellW (e : Ev) : List (List UInt8) :=
  if e.kind = 1 then
    if e.okind = 1 then [wk 1, printM e.rep, wo 1, printM e.cart, wordN e.item, printM e.onN]
    else if e.okind = 2 then [wk 1, printM e.rep, wo 2, printM e.cart, wordN e.item]
    else if e.okind = 3 then [wk 1, printM e.rep, wo 3, printM e.cart, wordN e.item, printM e.onN]
    else if e.okind = 4 then [wk 1, printM e.rep, wo 4, printM e.cart, wordN e.text]
    else if e.okind = 5 then [wk 1, printM e.rep, wo 5, printM e.cart]
    else []
  else if e.kind = 2 then [wk 2, printM e.rep, printM e.dest]
  else if e.kind = 3 then if 1 ≤ e.n ∧ e.n ≤ 3 then [wk 3, printM e.rep, printM e.dest, modeW e.n] else []
  else if e.kind = 4 then [wk 4, printM e.rep]
  else if e.kind = 5 then [wk 5, printM e.at_]
  else if e.kind = 6 then [wk 6, printM e.at_]
  else if e.kind = 7 then [wk 7, printM e.at_]
  else if e.kind = 8 then if e.data.length = 1 then [wk 8, printM e.at_, printM e.n, printM ((e.data.headD 0).toNat : Int)] else []
  else if e.kind = 9 then [wk 9, printM e.dest, hexM e.data]
  else []
def textM (e : Ev) : List UInt8 := Lib.join (tellW e) [32]
/-- What the types of an event's fields allow. -/
structure Ev.In (e : Ev) : Prop where
  ok : e.Ok
  n : -9223372036854775808 ≤ e.n ∧ e.n ≤ 9223372036854775807
  at_ : -9223372036854775808 ≤ e.at_ ∧ e.at_ ≤ 9223372036854775807
  onN : -9223372036854775808 ≤ e.onN ∧ e.onN ≤ 9223372036854775807
  rep : 0 ≤ e.rep ∧ e.rep ≤ 255
  dest : 0 ≤ e.dest ∧ e.dest ≤ 255
  cart : 0 ≤ e.cart ∧ e.cart ≤ 65535
  data : e.data.length ≤ 1000
abbrev zero19 : Array Value := #[.int .i64 0, .int .u16 0, .int .u8 0, .int .u8 0, .int .u8 0, .int .u8 0, .int .u8 0, .int .u8 0, .int .u8 0, .int .u8 0, .int .i64 0, .int .u8 0, .int .u8 0, .int .u8 0, .int .u8 0, .int .u8 0, .int .u8 0, .int .u8 0, .int .u8 0]
set_option maxRecDepth 100000 in
set_option maxHeartbeats 6400000 in
theorem tell_c (e : Ev) (he : e.In) (dv : Value) (w : World) (hd : Sees w dv (bys e.data)) : Calls Try.prog 40 #[evV e dv] w fun x w' => x = .returned (.string ⟨(textM e).toArray⟩) ∧ Only No w w' := by
  obtain ⟨da, dc, rfl, -⟩ := hd.form
  rw [bys_len] at hd ⊢
  have hP1 := fun W : World => Lib.hid (print_c e.rep W (by have := he.rep; omega) (by have := he.rep; omega))
  have hP2 := fun W : World => Lib.hid (print_c e.dest W (by have := he.dest; omega) (by have := he.dest; omega))
  have hP3 := fun W : World => Lib.hid (print_c e.at_ W he.at_.1 he.at_.2)
  have hP4 := fun W : World => Lib.hid (print_c e.n W he.n.1 he.n.2)
  have hw1 : IntKind.i64.wrap e.rep = e.rep := IntWalk.i64_in _ (by have := he.rep; omega)
  have hw2 : IntKind.i64.wrap e.dest = e.dest := IntWalk.i64_in _ (by have := he.dest; omega)
  have hb : Blk (w.alloc (.cells (evA e (.slice da e.data.length dc)) 55)) w.heap.size (evA e (.slice da e.data.length dc)) 55 := Blk.new _ _ _
  have hO : Only No w (w.alloc (.cells (evA e (.slice da e.data.length dc)) 55)) := (Only.refl _ _).alloc _
  have hM : textM e = Lib.join (tellW e) [32] := rfl
  obtain ⟨RES, hRES⟩ : ∃ R, R = textM e := ⟨_, rfl⟩
  rw [← hRES]
  have HRES := Lib.hid (hRES.trans hM)
  clear hM hRES
  go_enter Try.func40, Try.ntmps40
  unfold evV
  go_upto_region 1 with fail
  generalize (w.alloc (.cells (evA e (.slice da e.data.length dc)) 55)) = w1 at *
  have HK := Lib.hid (fun (W : World) (h : Only No w1 W) => And.intro h (And.intro (show W.cell? ⟨w.heap.size, 1, none⟩ = some (.int .u8 e.rep) from (h.blk hb id).cell 1 _ rfl) (And.intro (show W.cell? ⟨w.heap.size, 2, none⟩ = some (.int .u8 e.dest) from (h.blk hb id).cell 2 _ rfl)
    (And.intro (show W.cell? ⟨w.heap.size, 4, none⟩ = some (.int .i64 e.at_) from (h.blk hb id).cell 4 _ rfl) (show W.cell? ⟨w.heap.size, 3, none⟩ = some (.int .i64 e.n) from (h.blk hb id).cell 3 _ rfl)))))
  have HB := Lib.hid hb
  have HO := Lib.hid hO
  clear hb hO
  go_region_held3 (fun w' => Only No w1 w' ∧ w'.cell? ⟨w.heap.size, 1, none⟩ = some (.int .u8 e.rep) ∧ w'.cell? ⟨w.heap.size, 2, none⟩ = some (.int .u8 e.dest) ∧ w'.cell? ⟨w.heap.size, 4, none⟩ = some (.int .i64 e.at_) ∧ w'.cell? ⟨w.heap.size, 3, none⟩ = some (.int .i64 e.n))
    (first | exact HK.out _ (Only.refl _ _).drew | exact HK.out _ (Only.refl _ _) | (refine HK.out _ (Only.trans ?_ hOk); exact And.left (by assumption))) (first
    | (go_at_call 50; ((with_reducible first | refine (hP1 _).out.mono ?_ | refine (hP2 _).out.mono ?_ | refine (hP3 _).out.mono ?_ | refine (hP4 _).out.mono ?_); rintro x w' ⟨rfl, hOk⟩))
    | fail)
  have hO1 : Only No w1 w' := And.left (by assumption)
  have hb2 := hO1.blk HB.out id
  have HO2 := Lib.hid (HO.out.trans hO1)
  have HD2 := Lib.hid (hd.no (HO.out.trans hO1))
  clear hO1 hd HK
  generalize w' = w2 at *
  have hrO := hb2.op he.ok
  have hcK : w2.cell? ⟨w.heap.size, 0, none⟩ = some (.int .i64 e.kind) := hb2.cell 0 _ rfl
  have hb7 := Blk.new w2 zero19 51
  have hiO := info_op he.ok
  have HB7 := Lib.hid (blk_setRow hb7 (opOf e).toArray)
  have hO3 : Only No w2 ((w2.alloc (.cells zero19 51)).setRow w2.heap.size (opOf e).toArray) := only_setRow ((Only.refl _ _).alloc _) _ _ (fun hk => absurd hk (Nat.lt_irrefl _))
  have hone : (opOf e).toArray.all (·.oneCell') = true := by
    rw [Array.all_eq_true_iff_forall_mem]
    intro v hv
    simp only [opOf, opL, List.mem_toArray, List.mem_append, List.mem_cons, List.not_mem_nil, or_false] at hv
    rcases hv with (((rfl | rfl) | hv) | rfl) | hv
    · rfl
    · rfl
    · exact bys_one _ _ hv
    · rfl
    · exact bys_one _ _ hv
  have HB2 := Lib.hid hb2
  have HR := Lib.hid hrO
  have HI := Lib.hid hiO
  have H7 := Lib.hid hb7
  have H3 := Lib.hid hO3
  have H1 := Lib.hid hone
  clear hb2 hrO hiO hb7 hO3 hone hcK
  refine Eq.mp (congrArg _ rfl) ?_
  go_upto_region 3 with (first
    | (refine wpList_load_mid rfl 51 (.tmp 26) rfl w.heap.size 5 rfl (opOf e) _ HR.out Try.underlying51 rfl HI.out ?_)
    | (refine wpList_store_row rfl 51 (.tmp 7) (.tmp 27) rfl w2.heap.size (opOf e).toArray rfl rfl _ _ H7.out (by rw [HI.out]; simp) (by show (19 : Nat) = (opOf e).toArray.size; rw [List.size_toArray, opOf_len he.ok]) H1.out ?_))
  have hb3 := HB7.out
  have hO3 := H3.out
  generalize ((w2.alloc (.cells zero19 51)).setRow w2.heap.size (opOf e).toArray) = w3 at *
  obtain ⟨i0, i1, i2, i3, i4, i5, i6, i7, hi⟩ := eight he.ok.1
  obtain ⟨t0, t1, t2, t3, t4, t5, t6, t7, ht⟩ := eight he.ok.2
  have hop : (opOf e).toArray = #[.int .i64 e.okind, .int .u16 e.cart, .int .u8 (i0.toNat : Int), .int .u8 (i1.toNat : Int), .int .u8 (i2.toNat : Int), .int .u8 (i3.toNat : Int), .int .u8 (i4.toNat : Int), .int .u8 (i5.toNat : Int), .int .u8 (i6.toNat : Int), .int .u8 (i7.toNat : Int), .int .i64 e.onN, .int .u8 (t0.toNat : Int), .int .u8 (t1.toNat : Int), .int .u8 (t2.toNat : Int), .int .u8 (t3.toNat : Int), .int .u8 (t4.toNat : Int), .int .u8 (t5.toNat : Int), .int .u8 (t6.toNat : Int), .int .u8 (t7.toNat : Int)] := by unfold opOf; rw [hi, ht]; rfl
  have hP5 := fun W : World => Lib.hid (print_c e.cart W (by have := he.cart; omega) (by have := he.cart; omega))
  have hP6 := fun W : World => Lib.hid (print_c e.onN W he.onN.1 he.onN.2)
  have hw5 : IntKind.i64.wrap e.cart = e.cart := IntWalk.i64_in _ (by have := he.cart; omega)
  have hN := fun W : World => Lib.hid (show Calls Try.prog 77 #[.agg #[.int .u8 (i0.toNat : Int), .int .u8 (i1.toNat : Int), .int .u8 (i2.toNat : Int), .int .u8 (i3.toNat : Int), .int .u8 (i4.toNat : Int), .int .u8 (i5.toNat : Int), .int .u8 (i6.toNat : Int), .int .u8 (i7.toNat : Int)]] W fun x w' => x = .returned (.string ⟨(wordN e.item).toArray⟩) ∧ Only No W w' from by rw [hi]; exact named_c _ rfl W)
  have hNT := fun W : World => Lib.hid (show Calls Try.prog 77 #[.agg #[.int .u8 (t0.toNat : Int), .int .u8 (t1.toNat : Int), .int .u8 (t2.toNat : Int), .int .u8 (t3.toNat : Int), .int .u8 (t4.toNat : Int), .int .u8 (t5.toNat : Int), .int .u8 (t6.toNat : Int), .int .u8 (t7.toNat : Int)]] W fun x w' => x = .returned (.string ⟨(wordN e.text).toArray⟩) ∧ Only No W w' from by rw [ht]; exact named_c _ rfl W)
  have HK := Lib.hid (fun (w' : World) (h : Only No w3 w') => (show Only No w3 w' ∧ w'.cell? ⟨w2.heap.size, 1, none⟩ = some (.int .u16 e.cart) ∧ w'.cell? ⟨w2.heap.size, 2, none⟩ = some (.int .u8 (i0.toNat : Int)) ∧ w'.cell? ⟨w2.heap.size, 3, none⟩ = some (.int .u8 (i1.toNat : Int)) ∧ w'.cell? ⟨w2.heap.size, 4, none⟩ = some (.int .u8 (i2.toNat : Int)) ∧ w'.cell? ⟨w2.heap.size, 5, none⟩ = some (.int .u8 (i3.toNat : Int)) ∧ w'.cell? ⟨w2.heap.size, 6, none⟩ = some (.int .u8 (i4.toNat : Int)) ∧ w'.cell? ⟨w2.heap.size, 7, none⟩ = some (.int .u8 (i5.toNat : Int)) ∧ w'.cell? ⟨w2.heap.size, 8, none⟩ = some (.int .u8 (i6.toNat : Int)) ∧ w'.cell? ⟨w2.heap.size, 9, none⟩ = some (.int .u8 (i7.toNat : Int)) ∧ w'.cell? ⟨w2.heap.size, 10, none⟩ = some (.int .i64 e.onN) from ⟨h, (h.blk hb3 id).cell 1 (.int .u16 e.cart) (by rw [hop]; rfl), (h.blk hb3 id).cell 2 (.int .u8 (i0.toNat : Int)) (by rw [hop]; rfl), (h.blk hb3 id).cell 3 (.int .u8 (i1.toNat : Int)) (by rw [hop]; rfl), (h.blk hb3 id).cell 4 (.int .u8 (i2.toNat : Int)) (by rw [hop]; rfl), (h.blk hb3 id).cell 5 (.int .u8 (i3.toNat : Int)) (by rw [hop]; rfl), (h.blk hb3 id).cell 6 (.int .u8 (i4.toNat : Int)) (by rw [hop]; rfl), (h.blk hb3 id).cell 7 (.int .u8 (i5.toNat : Int)) (by rw [hop]; rfl), (h.blk hb3 id).cell 8 (.int .u8 (i6.toNat : Int)) (by rw [hop]; rfl), (h.blk hb3 id).cell 9 (.int .u8 (i7.toNat : Int)) (by rw [hop]; rfl), (h.blk hb3 id).cell 10 (.int .i64 e.onN) (by rw [hop]; rfl)⟩))
  have HBO := Lib.hid hb3
  have HO3 := Lib.hid hO3
  have HOP := Lib.hid hop
  clear hb3 hO3 hop hi ht H7 H3 HB7
  go_region_held3 (fun w' => Only No w3 w' ∧ w'.cell? ⟨w2.heap.size, 1, none⟩ = some (.int .u16 e.cart) ∧ w'.cell? ⟨w2.heap.size, 2, none⟩ = some (.int .u8 (i0.toNat : Int)) ∧ w'.cell? ⟨w2.heap.size, 3, none⟩ = some (.int .u8 (i1.toNat : Int)) ∧ w'.cell? ⟨w2.heap.size, 4, none⟩ = some (.int .u8 (i2.toNat : Int)) ∧ w'.cell? ⟨w2.heap.size, 5, none⟩ = some (.int .u8 (i3.toNat : Int)) ∧ w'.cell? ⟨w2.heap.size, 6, none⟩ = some (.int .u8 (i4.toNat : Int)) ∧ w'.cell? ⟨w2.heap.size, 7, none⟩ = some (.int .u8 (i5.toNat : Int)) ∧ w'.cell? ⟨w2.heap.size, 8, none⟩ = some (.int .u8 (i6.toNat : Int)) ∧ w'.cell? ⟨w2.heap.size, 9, none⟩ = some (.int .u8 (i7.toNat : Int)) ∧ w'.cell? ⟨w2.heap.size, 10, none⟩ = some (.int .i64 e.onN))
    (first | exact HK.out _ (Only.refl _ _).drew | exact HK.out _ (Only.refl _ _) | (refine HK.out _ (Only.trans ?_ hOk); exact And.left (by assumption))) (first
    | (go_at_call 50; ((with_reducible first | refine (hP5 _).out.mono ?_ | refine (hP6 _).out.mono ?_); rintro x w' ⟨rfl, hOk⟩))
    | (go_at_call 77; ((with_reducible refine (hN _).out.mono ?_); rintro x w' ⟨rfl, hOk⟩))
    | fail)
  have hO4 : Only No w3 w' := And.left (by assumption)
  have hbE := (HO3.out.trans hO4).blk HB2.out id
  have hbO := hO4.blk HBO.out id
  have HF := Lib.hid (HO2.out.trans (HO3.out.trans hO4))
  have HDF := Lib.hid (HD2.out.no (HO3.out.trans hO4))
  clear hO4 HK
  generalize w' = w4 at *
  -- BRANCHES (printed by wip/tools/tells.py)
  have cK : w4.cell? ⟨w.heap.size, 0, none⟩ = some (.int .i64 e.kind) := hbE.cell 0 _ rfl
  have cO : w4.cell? ⟨w2.heap.size, 0, none⟩ = some (.int .i64 e.okind) := hbO.cell 0 _ rfl
  have cN : w4.cell? ⟨w.heap.size, 3, none⟩ = some (.int .i64 e.n) := hbE.cell 3 _ rfl
  have cD : w4.cell? ⟨w.heap.size, 24, none⟩ = some (.slice da e.data.length dc) := hbE.cell 24 _ (evA_data he.ok _)
  have HBE := Lib.hid hbE
  have HBOO := Lib.hid hbO
  have s_rep := Lib.hid (prt_size e.rep (by have := he.rep; omega) (by have := he.rep; omega))
  have s_dest := Lib.hid (prt_size e.dest (by have := he.dest; omega) (by have := he.dest; omega))
  have s_cart := Lib.hid (prt_size e.cart (by have := he.cart; omega) (by have := he.cart; omega))
  have s_at := Lib.hid (prt_size e.at_ he.at_.1 he.at_.2)
  have s_n := Lib.hid (prt_size e.n he.n.1 he.n.2)
  have s_on := Lib.hid (prt_size e.onN he.onN.1 he.onN.2)
  have s_item := Lib.hid (wrd_size e.item he.ok.1)
  have s_text := Lib.hid (wrd_size e.text he.ok.2)
  clear hbE hbO
  by_cases k1 : e.kind = 1
  · rw [k1] at cK
    by_cases o1 : e.okind = 1
    · rw [o1] at cO
      have HT := Lib.hid (show tellW e = ([⟨#[100, 111]⟩, ⟨(printM e.rep).toArray⟩, ⟨#[97, 100, 100]⟩, ⟨(printM e.cart).toArray⟩, ⟨(wordN e.item).toArray⟩, ⟨(printM e.onN).toArray⟩] : List ByteArray).map (·.data.toList) from by
        unfold tellW
        rw [if_pos k1, if_pos o1]
        rfl)
      go_wp2_with fail
      refine (line_new _ [⟨#[100, 111]⟩, ⟨(printM e.rep).toArray⟩, ⟨#[97, 100, 100]⟩, ⟨(printM e.cart).toArray⟩, ⟨(wordN e.item).toArray⟩, ⟨(printM e.onN).toArray⟩] (by simp) (by simp) (fun p hp => by
        simp only [List.mem_cons, List.not_mem_nil, or_false] at hp
        rcases hp with rfl | rfl | rfl | rfl | rfl | rfl
        all_goals first | exact s_rep.out | exact s_dest.out | exact s_cart.out | exact s_at.out | exact s_n.out | exact s_on.out | exact s_item.out | exact s_text.out | exact s_x.out | decide)).mono ?_
      rintro x w9 ⟨rfl, hO9⟩
      go_wp2_with fail
      go_ret
      rw [HRES.out, HT.out]
      exact ⟨rfl, (HF.out).trans hO9⟩
    have n1 : (e.okind == 1) = false := beq_eq_false_iff_ne.2 o1
    by_cases o2 : e.okind = 2
    · rw [o2] at cO
      have HT := Lib.hid (show tellW e = ([⟨#[100, 111]⟩, ⟨(printM e.rep).toArray⟩, ⟨#[114, 101, 109, 111, 118, 101]⟩, ⟨(printM e.cart).toArray⟩, ⟨(wordN e.item).toArray⟩] : List ByteArray).map (·.data.toList) from by
        unfold tellW
        rw [if_pos k1, if_neg o1, if_pos o2]
        rfl)
      go_wp2_with fail
      refine (line_new _ [⟨#[100, 111]⟩, ⟨(printM e.rep).toArray⟩, ⟨#[114, 101, 109, 111, 118, 101]⟩, ⟨(printM e.cart).toArray⟩, ⟨(wordN e.item).toArray⟩] (by simp) (by simp) (fun p hp => by
        simp only [List.mem_cons, List.not_mem_nil, or_false] at hp
        rcases hp with rfl | rfl | rfl | rfl | rfl
        all_goals first | exact s_rep.out | exact s_dest.out | exact s_cart.out | exact s_at.out | exact s_n.out | exact s_on.out | exact s_item.out | exact s_text.out | exact s_x.out | decide)).mono ?_
      rintro x w9 ⟨rfl, hO9⟩
      go_wp2_with fail
      go_ret
      rw [HRES.out, HT.out]
      exact ⟨rfl, (HF.out).trans hO9⟩
    have n2 : (e.okind == 2) = false := beq_eq_false_iff_ne.2 o2
    by_cases o3 : e.okind = 3
    · rw [o3] at cO
      have HT := Lib.hid (show tellW e = ([⟨#[100, 111]⟩, ⟨(printM e.rep).toArray⟩, ⟨#[115, 101, 116]⟩, ⟨(printM e.cart).toArray⟩, ⟨(wordN e.item).toArray⟩, ⟨(printM e.onN).toArray⟩] : List ByteArray).map (·.data.toList) from by
        unfold tellW
        rw [if_pos k1, if_neg o1, if_neg o2, if_pos o3]
        rfl)
      go_wp2_with fail
      refine (line_new _ [⟨#[100, 111]⟩, ⟨(printM e.rep).toArray⟩, ⟨#[115, 101, 116]⟩, ⟨(printM e.cart).toArray⟩, ⟨(wordN e.item).toArray⟩, ⟨(printM e.onN).toArray⟩] (by simp) (by simp) (fun p hp => by
        simp only [List.mem_cons, List.not_mem_nil, or_false] at hp
        rcases hp with rfl | rfl | rfl | rfl | rfl | rfl
        all_goals first | exact s_rep.out | exact s_dest.out | exact s_cart.out | exact s_at.out | exact s_n.out | exact s_on.out | exact s_item.out | exact s_text.out | exact s_x.out | decide)).mono ?_
      rintro x w9 ⟨rfl, hO9⟩
      go_wp2_with fail
      go_ret
      rw [HRES.out, HT.out]
      exact ⟨rfl, (HF.out).trans hO9⟩
    have n3 : (e.okind == 3) = false := beq_eq_false_iff_ne.2 o3
    by_cases o4 : e.okind = 4
    · rw [o4] at cO
      have HT := Lib.hid (show tellW e = ([⟨#[100, 111]⟩, ⟨(printM e.rep).toArray⟩, ⟨#[119, 114, 105, 116, 101]⟩, ⟨(printM e.cart).toArray⟩, ⟨(wordN e.text).toArray⟩] : List ByteArray).map (·.data.toList) from by
        unfold tellW
        rw [if_pos k1, if_neg o1, if_neg o2, if_neg o3, if_pos o4]
        rfl)
      have hbT := HBOO.out
      rw [HOP.out] at hbT
      have t_0 := hbT.cell 11 (.int .u8 (t0.toNat : Int)) rfl
      have t_1 := hbT.cell 12 (.int .u8 (t1.toNat : Int)) rfl
      have t_2 := hbT.cell 13 (.int .u8 (t2.toNat : Int)) rfl
      have t_3 := hbT.cell 14 (.int .u8 (t3.toNat : Int)) rfl
      have t_4 := hbT.cell 15 (.int .u8 (t4.toNat : Int)) rfl
      have t_5 := hbT.cell 16 (.int .u8 (t5.toNat : Int)) rfl
      have t_6 := hbT.cell 17 (.int .u8 (t6.toNat : Int)) rfl
      have t_7 := hbT.cell 18 (.int .u8 (t7.toNat : Int)) rfl
      clear hbT
      go_wp2_with fail
      refine (hNT _).out.mono ?_
      rintro x w5 ⟨rfl, hO5⟩
      go_wp2_with fail
      refine (line_new _ [⟨#[100, 111]⟩, ⟨(printM e.rep).toArray⟩, ⟨#[119, 114, 105, 116, 101]⟩, ⟨(printM e.cart).toArray⟩, ⟨(wordN e.text).toArray⟩] (by simp) (by simp) (fun p hp => by
        simp only [List.mem_cons, List.not_mem_nil, or_false] at hp
        rcases hp with rfl | rfl | rfl | rfl | rfl
        all_goals first | exact s_rep.out | exact s_dest.out | exact s_cart.out | exact s_at.out | exact s_n.out | exact s_on.out | exact s_item.out | exact s_text.out | exact s_x.out | decide)).mono ?_
      rintro x w9 ⟨rfl, hO9⟩
      go_wp2_with fail
      go_ret
      rw [HRES.out, HT.out]
      exact ⟨rfl, (HF.out.trans hO5).trans hO9⟩
    have n4 : (e.okind == 4) = false := beq_eq_false_iff_ne.2 o4
    by_cases o5 : e.okind = 5
    · rw [o5] at cO
      have HT := Lib.hid (show tellW e = ([⟨#[100, 111]⟩, ⟨(printM e.rep).toArray⟩, ⟨#[99, 108, 101, 97, 114]⟩, ⟨(printM e.cart).toArray⟩] : List ByteArray).map (·.data.toList) from by
        unfold tellW
        rw [if_pos k1, if_neg o1, if_neg o2, if_neg o3, if_neg o4, if_pos o5]
        rfl)
      go_wp2_with fail
      refine (line_new _ [⟨#[100, 111]⟩, ⟨(printM e.rep).toArray⟩, ⟨#[99, 108, 101, 97, 114]⟩, ⟨(printM e.cart).toArray⟩] (by simp) (by simp) (fun p hp => by
        simp only [List.mem_cons, List.not_mem_nil, or_false] at hp
        rcases hp with rfl | rfl | rfl | rfl
        all_goals first | exact s_rep.out | exact s_dest.out | exact s_cart.out | exact s_at.out | exact s_n.out | exact s_on.out | exact s_item.out | exact s_text.out | exact s_x.out | decide)).mono ?_
      rintro x w9 ⟨rfl, hO9⟩
      go_wp2_with fail
      go_ret
      rw [HRES.out, HT.out]
      exact ⟨rfl, (HF.out).trans hO9⟩
    have n5 : (e.okind == 5) = false := beq_eq_false_iff_ne.2 o5
    have HT := Lib.hid (show tellW e = [] from by
      unfold tellW
      rw [if_pos k1, if_neg o1, if_neg o2, if_neg o3, if_neg o4, if_neg o5])
    go_wp2_with fail
    go_ret
    rw [HRES.out, HT.out]
    exact ⟨rfl, HF.out⟩
  have m1 : (e.kind == 1) = false := beq_eq_false_iff_ne.2 k1
  by_cases k2 : e.kind = 2
  · rw [k2] at cK
    have HT := Lib.hid (show tellW e = ([⟨#[103, 111, 115, 115, 105, 112]⟩, ⟨(printM e.rep).toArray⟩, ⟨(printM e.dest).toArray⟩] : List ByteArray).map (·.data.toList) from by
      unfold tellW
      rw [if_neg k1, if_pos k2]
      rfl)
    go_wp2_with fail
    refine (line_new _ [⟨#[103, 111, 115, 115, 105, 112]⟩, ⟨(printM e.rep).toArray⟩, ⟨(printM e.dest).toArray⟩] (by simp) (by simp) (fun p hp => by
      simp only [List.mem_cons, List.not_mem_nil, or_false] at hp
      rcases hp with rfl | rfl | rfl
      all_goals first | exact s_rep.out | exact s_dest.out | exact s_cart.out | exact s_at.out | exact s_n.out | exact s_on.out | exact s_item.out | exact s_text.out | exact s_x.out | decide)).mono ?_
    rintro x w9 ⟨rfl, hO9⟩
    go_wp2_with fail
    go_ret
    rw [HRES.out, HT.out]
    exact ⟨rfl, (HF.out).trans hO9⟩
  have m2 : (e.kind == 2) = false := beq_eq_false_iff_ne.2 k2
  by_cases k3 : e.kind = 3
  · rw [k3] at cK
    have HMO := fun W : World => Lib.hid (modes_c W)
    go_wp2_with fail
    refine (HMO _).out.mono ?_
    rintro x w5 ⟨v, rfl, hv, hvf, hO5⟩
    have cN5 : w5.cell? ⟨w.heap.size, 3, none⟩ = some (.int .i64 e.n) := (hO5.blk HBE.out id).cell 3 _ rfl
    obtain ⟨va, vc, rfl, hvc, hvv⟩ := hv.form
    obtain ⟨vb, vo, rfl, hvb, hvcell⟩ := hvv (by decide)
    have hml : (txs modeL).length = 3 := rfl
    rw [hml] at *
    by_cases e1 : e.n = 1
    · rw [e1] at cN5
      have v0 := hvcell 0 (.string ⟨#[99, 101, 108, 108, 115]⟩) rfl
      have HT := Lib.hid (show tellW e = ([⟨#[98, 101, 103, 105, 110]⟩, ⟨(printM e.rep).toArray⟩, ⟨(printM e.dest).toArray⟩, ⟨#[99, 101, 108, 108, 115]⟩] : List ByteArray).map (·.data.toList) from by
        unfold tellW
        rw [if_neg k1, if_neg k2, if_pos k3, if_pos (by omega), modeW, e1]
        rfl)
      rw [Nat.add_zero] at v0
      clear hvcell hvv
      go_wp2_with fail
      refine (line_new _ [⟨#[98, 101, 103, 105, 110]⟩, ⟨(printM e.rep).toArray⟩, ⟨(printM e.dest).toArray⟩, ⟨#[99, 101, 108, 108, 115]⟩] (by simp) (by simp) (fun p hp => by
        simp only [List.mem_cons, List.not_mem_nil, or_false] at hp
        rcases hp with rfl | rfl | rfl | rfl
        all_goals first | exact s_rep.out | exact s_dest.out | exact s_cart.out | exact s_at.out | exact s_n.out | exact s_on.out | exact s_item.out | exact s_text.out | exact s_x.out | decide)).mono ?_
      rintro x w9 ⟨rfl, hO9⟩
      go_wp2_with fail
      go_ret
      rw [HRES.out, HT.out]
      exact ⟨rfl, (HF.out.trans hO5).trans hO9⟩
    by_cases e2 : e.n = 2
    · rw [e2] at cN5
      have v0 := hvcell 1 (.string ⟨#[116, 97, 98, 108, 101]⟩) rfl
      have HT := Lib.hid (show tellW e = ([⟨#[98, 101, 103, 105, 110]⟩, ⟨(printM e.rep).toArray⟩, ⟨(printM e.dest).toArray⟩, ⟨#[116, 97, 98, 108, 101]⟩] : List ByteArray).map (·.data.toList) from by
        unfold tellW
        rw [if_neg k1, if_neg k2, if_pos k3, if_pos (by omega), modeW, e2]
        rfl)
      clear hvcell hvv
      go_wp2_with fail
      refine (line_new _ [⟨#[98, 101, 103, 105, 110]⟩, ⟨(printM e.rep).toArray⟩, ⟨(printM e.dest).toArray⟩, ⟨#[116, 97, 98, 108, 101]⟩] (by simp) (by simp) (fun p hp => by
        simp only [List.mem_cons, List.not_mem_nil, or_false] at hp
        rcases hp with rfl | rfl | rfl | rfl
        all_goals first | exact s_rep.out | exact s_dest.out | exact s_cart.out | exact s_at.out | exact s_n.out | exact s_on.out | exact s_item.out | exact s_text.out | exact s_x.out | decide)).mono ?_
      rintro x w9 ⟨rfl, hO9⟩
      go_wp2_with fail
      go_ret
      rw [HRES.out, HT.out]
      exact ⟨rfl, (HF.out.trans hO5).trans hO9⟩
    by_cases e3 : e.n = 3
    · rw [e3] at cN5
      have v0 := hvcell 2 (.string ⟨#[119, 104, 111, 108, 101]⟩) rfl
      have HT := Lib.hid (show tellW e = ([⟨#[98, 101, 103, 105, 110]⟩, ⟨(printM e.rep).toArray⟩, ⟨(printM e.dest).toArray⟩, ⟨#[119, 104, 111, 108, 101]⟩] : List ByteArray).map (·.data.toList) from by
        unfold tellW
        rw [if_neg k1, if_neg k2, if_pos k3, if_pos (by omega), modeW, e3]
        rfl)
      clear hvcell hvv
      go_wp2_with fail
      refine (line_new _ [⟨#[98, 101, 103, 105, 110]⟩, ⟨(printM e.rep).toArray⟩, ⟨(printM e.dest).toArray⟩, ⟨#[119, 104, 111, 108, 101]⟩] (by simp) (by simp) (fun p hp => by
        simp only [List.mem_cons, List.not_mem_nil, or_false] at hp
        rcases hp with rfl | rfl | rfl | rfl
        all_goals first | exact s_rep.out | exact s_dest.out | exact s_cart.out | exact s_at.out | exact s_n.out | exact s_on.out | exact s_item.out | exact s_text.out | exact s_x.out | decide)).mono ?_
      rintro x w9 ⟨rfl, hO9⟩
      go_wp2_with fail
      go_ret
      rw [HRES.out, HT.out]
      exact ⟨rfl, (HF.out.trans hO5).trans hO9⟩
    have hlow : e.n < 1 ∨ 3 < e.n := by omega
    have HT := Lib.hid (show tellW e = [] from by
      unfold tellW
      rw [if_neg k1, if_neg k2, if_pos k3, if_neg (by omega)])
    rcases hlow with hlo | hhi
    · have nn : ¬ 1 ≤ e.n := by omega
      have nd : decide (1 ≤ e.n) = false := decide_eq_false nn
      go_wp2_with fail
      all_goals try (exfalso; omega)
      go_ret
      rw [HRES.out, HT.out]
      exact ⟨rfl, HF.out.trans hO5⟩
    have nn : ¬ e.n ≤ 3 := by omega
    have nd : decide (e.n ≤ 3) = false := decide_eq_false nn
    have nd2 : decide (1 ≤ e.n) = true := decide_eq_true (by omega)
    go_wp2_with fail
    all_goals try (exfalso; omega)
    go_ret
    rw [HRES.out, HT.out]
    exact ⟨rfl, HF.out.trans hO5⟩
  have m3 : (e.kind == 3) = false := beq_eq_false_iff_ne.2 k3
  by_cases k4 : e.kind = 4
  · rw [k4] at cK
    have HT := Lib.hid (show tellW e = ([⟨#[114, 111, 117, 110, 100]⟩, ⟨(printM e.rep).toArray⟩] : List ByteArray).map (·.data.toList) from by
      unfold tellW
      rw [if_neg k1, if_neg k2, if_neg k3, if_pos k4]
      rfl)
    go_wp2_with fail
    refine (line_new _ [⟨#[114, 111, 117, 110, 100]⟩, ⟨(printM e.rep).toArray⟩] (by simp) (by simp) (fun p hp => by
      simp only [List.mem_cons, List.not_mem_nil, or_false] at hp
      rcases hp with rfl | rfl
      all_goals first | exact s_rep.out | exact s_dest.out | exact s_cart.out | exact s_at.out | exact s_n.out | exact s_on.out | exact s_item.out | exact s_text.out | exact s_x.out | decide)).mono ?_
    rintro x w9 ⟨rfl, hO9⟩
    go_wp2_with fail
    go_ret
    rw [HRES.out, HT.out]
    exact ⟨rfl, (HF.out).trans hO9⟩
  have m4 : (e.kind == 4) = false := beq_eq_false_iff_ne.2 k4
  by_cases k5 : e.kind = 5
  · rw [k5] at cK
    have HT := Lib.hid (show tellW e = ([⟨#[99, 111, 109, 101]⟩, ⟨(printM e.at_).toArray⟩] : List ByteArray).map (·.data.toList) from by
      unfold tellW
      rw [if_neg k1, if_neg k2, if_neg k3, if_neg k4, if_pos k5]
      rfl)
    go_wp2_with fail
    refine (line_new _ [⟨#[99, 111, 109, 101]⟩, ⟨(printM e.at_).toArray⟩] (by simp) (by simp) (fun p hp => by
      simp only [List.mem_cons, List.not_mem_nil, or_false] at hp
      rcases hp with rfl | rfl
      all_goals first | exact s_rep.out | exact s_dest.out | exact s_cart.out | exact s_at.out | exact s_n.out | exact s_on.out | exact s_item.out | exact s_text.out | exact s_x.out | decide)).mono ?_
    rintro x w9 ⟨rfl, hO9⟩
    go_wp2_with fail
    go_ret
    rw [HRES.out, HT.out]
    exact ⟨rfl, (HF.out).trans hO9⟩
  have m5 : (e.kind == 5) = false := beq_eq_false_iff_ne.2 k5
  by_cases k6 : e.kind = 6
  · rw [k6] at cK
    have HT := Lib.hid (show tellW e = ([⟨#[108, 111, 115, 101]⟩, ⟨(printM e.at_).toArray⟩] : List ByteArray).map (·.data.toList) from by
      unfold tellW
      rw [if_neg k1, if_neg k2, if_neg k3, if_neg k4, if_neg k5, if_pos k6]
      rfl)
    go_wp2_with fail
    refine (line_new _ [⟨#[108, 111, 115, 101]⟩, ⟨(printM e.at_).toArray⟩] (by simp) (by simp) (fun p hp => by
      simp only [List.mem_cons, List.not_mem_nil, or_false] at hp
      rcases hp with rfl | rfl
      all_goals first | exact s_rep.out | exact s_dest.out | exact s_cart.out | exact s_at.out | exact s_n.out | exact s_on.out | exact s_item.out | exact s_text.out | exact s_x.out | decide)).mono ?_
    rintro x w9 ⟨rfl, hO9⟩
    go_wp2_with fail
    go_ret
    rw [HRES.out, HT.out]
    exact ⟨rfl, (HF.out).trans hO9⟩
  have m6 : (e.kind == 6) = false := beq_eq_false_iff_ne.2 k6
  by_cases k7 : e.kind = 7
  · rw [k7] at cK
    have HT := Lib.hid (show tellW e = ([⟨#[116, 119, 105, 99, 101]⟩, ⟨(printM e.at_).toArray⟩] : List ByteArray).map (·.data.toList) from by
      unfold tellW
      rw [if_neg k1, if_neg k2, if_neg k3, if_neg k4, if_neg k5, if_neg k6, if_pos k7]
      rfl)
    go_wp2_with fail
    refine (line_new _ [⟨#[116, 119, 105, 99, 101]⟩, ⟨(printM e.at_).toArray⟩] (by simp) (by simp) (fun p hp => by
      simp only [List.mem_cons, List.not_mem_nil, or_false] at hp
      rcases hp with rfl | rfl
      all_goals first | exact s_rep.out | exact s_dest.out | exact s_cart.out | exact s_at.out | exact s_n.out | exact s_on.out | exact s_item.out | exact s_text.out | exact s_x.out | decide)).mono ?_
    rintro x w9 ⟨rfl, hO9⟩
    go_wp2_with fail
    go_ret
    rw [HRES.out, HT.out]
    exact ⟨rfl, (HF.out).trans hO9⟩
  have m7 : (e.kind == 7) = false := beq_eq_false_iff_ne.2 k7
  by_cases k8 : e.kind = 8
  · rw [k8] at cK
    by_cases d1 : e.data.length = 1
    · obtain ⟨c, hc⟩ : ∃ c, e.data = [c] := by
        match hq : e.data, d1 with
        | [c], _ => exact ⟨c, rfl⟩
      have hsee := HDF.out
      obtain ⟨a8, c8, hv8, -, hf8⟩ := hsee.form
      obtain ⟨b8, o8, rfl, hb8, hcell8⟩ := hf8 (by rw [hc]; simp [bys])
      simp only [Value.slice.injEq] at hv8
      obtain ⟨rfl, -, rfl⟩ := hv8
      have v8 := hcell8 0 (.int .u8 (c.toNat : Int)) (by rw [hc]; rfl)
      rw [Nat.add_zero] at v8
      rw [d1] at cD
      have hPc := fun W : World => Lib.hid (print_c (c.toNat : Int) W (by omega) (by have := c.toNat_lt; omega))
      have hwc : IntKind.i64.wrap (c.toNat : Int) = (c.toNat : Int) := IntWalk.i64_in _ (by have := c.toNat_lt; omega)
      have s_x := Lib.hid (prt_size (c.toNat : Int) (by omega) (by have := c.toNat_lt; omega))
      have HC := Lib.hid hc
      clear hcell8 hf8 hsee hc
      have HT := Lib.hid (show tellW e = ([⟨#[115, 112, 111, 105, 108]⟩, ⟨(printM e.at_).toArray⟩, ⟨(printM e.n).toArray⟩, ⟨(printM (c.toNat : Int)).toArray⟩] : List ByteArray).map (·.data.toList) from by
        unfold tellW
        rw [if_neg k1, if_neg k2, if_neg k3, if_neg k4, if_neg k5, if_neg k6, if_neg k7, if_pos k8, if_pos d1, HC.out]
        rfl)
      go_wp2_with fail
      refine (hPc _).out.mono ?_
      rintro x w5 ⟨rfl, hO5⟩
      go_wp2_with fail
      refine (line_new _ [⟨#[115, 112, 111, 105, 108]⟩, ⟨(printM e.at_).toArray⟩, ⟨(printM e.n).toArray⟩, ⟨(printM (c.toNat : Int)).toArray⟩] (by simp) (by simp) (fun p hp => by
        simp only [List.mem_cons, List.not_mem_nil, or_false] at hp
        rcases hp with rfl | rfl | rfl | rfl
        all_goals first | exact s_rep.out | exact s_dest.out | exact s_cart.out | exact s_at.out | exact s_n.out | exact s_on.out | exact s_item.out | exact s_text.out | exact s_x.out | decide)).mono ?_
      rintro x w9 ⟨rfl, hO9⟩
      go_wp2_with fail
      go_ret
      rw [HRES.out, HT.out]
      exact ⟨rfl, (HF.out.trans hO5).trans hO9⟩
    have nd : ((e.data.length : Int) == 1) = false := beq_eq_false_iff_ne.2 (by omega)
    have HT := Lib.hid (show tellW e = [] from by
      unfold tellW
      rw [if_neg k1, if_neg k2, if_neg k3, if_neg k4, if_neg k5, if_neg k6, if_neg k7, if_pos k8, if_neg d1])
    go_wp2_with fail
    go_ret
    rw [HRES.out, HT.out]
    exact ⟨rfl, HF.out⟩
  have m8 : (e.kind == 8) = false := beq_eq_false_iff_ne.2 k8
  by_cases k9 : e.kind = 9
  · rw [k9] at cK
    have hX := fun (W : World) (h : Sees W (.slice da (bys e.data).length dc) (bys e.data)) => Lib.hid (hex_c _ e.data W h (by have := he.data; omega))
    simp only [bys_len] at hX
    have hsD := HDF.out
    have s_x := Lib.hid (hex_size e.data he.data)
    have HT := Lib.hid (show tellW e = ([⟨#[105, 110, 106, 101, 99, 116]⟩, ⟨(printM e.dest).toArray⟩, ⟨(hexM e.data).toArray⟩] : List ByteArray).map (·.data.toList) from by
      unfold tellW
      rw [if_neg k1, if_neg k2, if_neg k3, if_neg k4, if_neg k5, if_neg k6, if_neg k7, if_neg k8, if_pos k9]
      rfl)
    go_wp2_with fail
    refine (hX _ hsD).out.mono ?_
    rintro x w5 ⟨rfl, hO5⟩
    go_wp2_with fail
    refine (line_new _ [⟨#[105, 110, 106, 101, 99, 116]⟩, ⟨(printM e.dest).toArray⟩, ⟨(hexM e.data).toArray⟩] (by simp) (by simp) (fun p hp => by
      simp only [List.mem_cons, List.not_mem_nil, or_false] at hp
      rcases hp with rfl | rfl | rfl
      all_goals first | exact s_rep.out | exact s_dest.out | exact s_cart.out | exact s_at.out | exact s_n.out | exact s_on.out | exact s_item.out | exact s_text.out | exact s_x.out | decide)).mono ?_
    rintro x w9 ⟨rfl, hO9⟩
    go_wp2_with fail
    go_ret
    rw [HRES.out, HT.out]
    exact ⟨rfl, (HF.out.trans hO5).trans hO9⟩
  have m9 : (e.kind == 9) = false := beq_eq_false_iff_ne.2 k9
  have HT := Lib.hid (show tellW e = [] from by
    unfold tellW
    rw [if_neg k1, if_neg k2, if_neg k3, if_neg k4, if_neg k5, if_neg k6, if_neg k7, if_neg k8, if_neg k9])
  go_wp2_with fail
  go_ret
  rw [HRES.out, HT.out]
  exact ⟨rfl, HF.out⟩
end Go.Proofs.Ytlilhdkaaendlaa
