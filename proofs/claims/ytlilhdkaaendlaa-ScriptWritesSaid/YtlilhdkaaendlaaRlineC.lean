/- The line of an event: the document's (printed by wip/tools/rtexts.py). No statement is proved here. -/
import Derived.Test.YtlilhdkaaendlaaTell
namespace Go.Proofs.Ytlilhdkaaendlaa
open Go.RowKit

set_option maxRecDepth 100000 in
set_option maxHeartbeats 6400000 in
theorem rtext8_c (e : Ev) (he : e.In) (k8 : e.kind = 8) (d1 : e.data.length = 1) (dv : Value) (w : World) (hd : Sees w dv (bys e.data)) : Calls Try.prog 42 #[evV e dv] w fun x w' => x = .returned (.string ⟨(textM e).toArray⟩) ∧ Only No w w' := by
  have hD1 := Lib.hid d1
  clear d1
  obtain ⟨da, dc, rfl, -⟩ := hd.form
  rw [bys_len] at hd ⊢
  have s_rep := prt_size e.rep (by have := he.rep; omega) (by have := he.rep; omega)
  have s_dest := prt_size e.dest (by have := he.dest; omega) (by have := he.dest; omega)
  have s_cart := prt_size e.cart (by have := he.cart; omega) (by have := he.cart; omega)
  have s_at := prt_size e.at_ he.at_.1 he.at_.2
  have s_n := prt_size e.n he.n.1 he.n.2
  have s_on := prt_size e.onN he.onN.1 he.onN.2
  have s_item := wrd_size e.item he.ok.1
  have s_text := wrd_size e.text he.ok.2
  have s_hex := hex_size e.data he.data
  have hP1 := fun W : World => rprint_c e.rep W (by have := he.rep; omega) (by have := he.rep; omega)
  have hP2 := fun W : World => rprint_c e.dest W (by have := he.dest; omega) (by have := he.dest; omega)
  have hP3 := fun W : World => rprint_c e.at_ W he.at_.1 he.at_.2
  have hP4 := fun W : World => rprint_c e.n W he.n.1 he.n.2
  have hP5 := fun W : World => rprint_c e.cart W (by have := he.cart; omega) (by have := he.cart; omega)
  have hP6 := fun W : World => rprint_c e.onN W he.onN.1 he.onN.2
  obtain ⟨i0, i1, i2, i3, i4, i5, i6, i7, hi⟩ := eight he.ok.1
  obtain ⟨t0, t1, t2, t3, t4, t5, t6, t7, ht⟩ := eight he.ok.2
  have hNI := fun W : World => (show Calls Try.prog 79 #[.agg #[.int .u8 (i0.toNat : Int), .int .u8 (i1.toNat : Int), .int .u8 (i2.toNat : Int), .int .u8 (i3.toNat : Int), .int .u8 (i4.toNat : Int), .int .u8 (i5.toNat : Int), .int .u8 (i6.toNat : Int), .int .u8 (i7.toNat : Int)]] W fun x w' => x = .returned (.string ⟨(wordN e.item).toArray⟩) ∧ Only No W w' from by rw [hi]; exact rWord_c _ rfl W)
  have hNT := fun W : World => (show Calls Try.prog 79 #[.agg #[.int .u8 (t0.toNat : Int), .int .u8 (t1.toNat : Int), .int .u8 (t2.toNat : Int), .int .u8 (t3.toNat : Int), .int .u8 (t4.toNat : Int), .int .u8 (t5.toNat : Int), .int .u8 (t6.toNat : Int), .int .u8 (t7.toNat : Int)]] W fun x w' => x = .returned (.string ⟨(wordN e.text).toArray⟩) ∧ Only No W w' from by rw [ht]; exact rWord_c _ rfl W)
  have hX := fun (W : World) (h : Sees W (.slice da (bys e.data).length dc) (bys e.data)) => rhex_c _ e.data W h (by have := he.data; omega)
  simp only [bys_len] at hX
  obtain ⟨R, eqR⟩ : ∃ R : ByteArray, R = ⟨(printM e.rep).toArray⟩ := ⟨_, rfl⟩
  obtain ⟨D, eqD⟩ : ∃ D : ByteArray, D = ⟨(printM e.dest).toArray⟩ := ⟨_, rfl⟩
  obtain ⟨A, eqA⟩ : ∃ A : ByteArray, A = ⟨(printM e.at_).toArray⟩ := ⟨_, rfl⟩
  obtain ⟨N, eqN⟩ : ∃ N : ByteArray, N = ⟨(printM e.n).toArray⟩ := ⟨_, rfl⟩
  obtain ⟨C, eqC⟩ : ∃ C : ByteArray, C = ⟨(printM e.cart).toArray⟩ := ⟨_, rfl⟩
  obtain ⟨O, eqO⟩ : ∃ O : ByteArray, O = ⟨(printM e.onN).toArray⟩ := ⟨_, rfl⟩
  obtain ⟨I, eqI⟩ : ∃ I : ByteArray, I = ⟨(wordN e.item).toArray⟩ := ⟨_, rfl⟩
  obtain ⟨T, eqT⟩ : ∃ T : ByteArray, T = ⟨(wordN e.text).toArray⟩ := ⟨_, rfl⟩
  obtain ⟨X, eqX⟩ : ∃ X : ByteArray, X = ⟨(hexM e.data).toArray⟩ := ⟨_, rfl⟩
  rw [← eqR] at hP1
  rw [← eqD] at hP2
  rw [← eqA] at hP3
  rw [← eqN] at hP4
  rw [← eqC] at hP5
  rw [← eqO] at hP6
  rw [← eqI] at hNI
  rw [← eqT] at hNT
  rw [← eqX] at hX
  rw [← eqR] at s_rep
  have z_rep : (R.size : Int) ≤ 3000 := by omega
  have GR := Lib.hid eqR
  clear eqR s_rep
  rw [← eqD] at s_dest
  have z_dest : (D.size : Int) ≤ 3000 := by omega
  have GD := Lib.hid eqD
  clear eqD s_dest
  rw [← eqA] at s_at
  have z_at : (A.size : Int) ≤ 3000 := by omega
  have GA := Lib.hid eqA
  clear eqA s_at
  rw [← eqN] at s_n
  have z_n : (N.size : Int) ≤ 3000 := by omega
  have GN := Lib.hid eqN
  clear eqN s_n
  rw [← eqC] at s_cart
  have z_cart : (C.size : Int) ≤ 3000 := by omega
  have GC := Lib.hid eqC
  clear eqC s_cart
  rw [← eqO] at s_on
  have z_on : (O.size : Int) ≤ 3000 := by omega
  have GO := Lib.hid eqO
  clear eqO s_on
  rw [← eqI] at s_item
  have z_item : (I.size : Int) ≤ 3000 := by omega
  have GI := Lib.hid eqI
  clear eqI s_item
  rw [← eqT] at s_text
  have z_text : (T.size : Int) ≤ 3000 := by omega
  have GT := Lib.hid eqT
  clear eqT s_text
  rw [← eqX] at s_hex
  have z_hex : (X.size : Int) ≤ 3000 := by omega
  have GX := Lib.hid eqX
  clear eqX s_hex
  have w_rep : IntKind.i64.wrap e.rep = e.rep := IntWalk.i64_in _ (by have := he.rep; omega)
  have w_dest : IntKind.i64.wrap e.dest = e.dest := IntWalk.i64_in _ (by have := he.dest; omega)
  have w_cart : IntKind.i64.wrap e.cart = e.cart := IntWalk.i64_in _ (by have := he.cart; omega)
  have hO : Only No w ((w.alloc (.cells (evA e (.slice da e.data.length dc)) 54)).alloc (.cells #[.string ⟨#[]⟩, .string ⟨#[99, 101, 108, 108, 115]⟩, .string ⟨#[116, 97, 98, 108, 101]⟩, .string ⟨#[119, 104, 111, 108, 101]⟩] 9)) := ((Only.refl No w).alloc _).alloc _
  have hb : Blk ((w.alloc (.cells (evA e (.slice da e.data.length dc)) 54)).alloc (.cells #[.string ⟨#[]⟩, .string ⟨#[99, 101, 108, 108, 115]⟩, .string ⟨#[116, 97, 98, 108, 101]⟩, .string ⟨#[119, 104, 111, 108, 101]⟩] 9)) w.heap.size (evA e (.slice da e.data.length dc)) 54 := (Blk.new w _ _).alloc _
  have hm : Blk ((w.alloc (.cells (evA e (.slice da e.data.length dc)) 54)).alloc (.cells #[.string ⟨#[]⟩, .string ⟨#[99, 101, 108, 108, 115]⟩, .string ⟨#[116, 97, 98, 108, 101]⟩, .string ⟨#[119, 104, 111, 108, 101]⟩] 9)) (w.heap.size + 1) #[.string ⟨#[]⟩, .string ⟨#[99, 101, 108, 108, 115]⟩, .string ⟨#[116, 97, 98, 108, 101]⟩, .string ⟨#[119, 104, 111, 108, 101]⟩] 9 := by
    have h := Blk.new (w.alloc (.cells (evA e (.slice da e.data.length dc)) 54)) #[.string ⟨#[]⟩, .string ⟨#[99, 101, 108, 108, 115]⟩, .string ⟨#[116, 97, 98, 108, 101]⟩, .string ⟨#[119, 104, 111, 108, 101]⟩] 9
    rw [show (w.alloc (.cells (evA e (.slice da e.data.length dc)) 54)).heap.size = w.heap.size + 1 by simp] at h
    exact h
  have hop : (opOf e) = [.int .i64 e.okind, .int .u16 e.cart, .int .u8 (i0.toNat : Int), .int .u8 (i1.toNat : Int), .int .u8 (i2.toNat : Int), .int .u8 (i3.toNat : Int), .int .u8 (i4.toNat : Int), .int .u8 (i5.toNat : Int), .int .u8 (i6.toNat : Int), .int .u8 (i7.toNat : Int), .int .i64 e.onN, .int .u8 (t0.toNat : Int), .int .u8 (t1.toNat : Int), .int .u8 (t2.toNat : Int), .int .u8 (t3.toNat : Int), .int .u8 (t4.toNat : Int), .int .u8 (t5.toNat : Int), .int .u8 (t6.toNat : Int), .int .u8 (t7.toNat : Int)] := by unfold opOf; rw [hi, ht]; rfl
  have hcell : ∀ (W : World), Only No ((w.alloc (.cells (evA e (.slice da e.data.length dc)) 54)).alloc (.cells #[.string ⟨#[]⟩, .string ⟨#[99, 101, 108, 108, 115]⟩, .string ⟨#[116, 97, 98, 108, 101]⟩, .string ⟨#[119, 104, 111, 108, 101]⟩] 9)) W → ∀ j v, (opOf e)[j]? = some v → W.cell? ⟨w.heap.size, 5 + j, none⟩ = some v := fun W h j v hv => (h.blk hb id).cell (5 + j) v (evA_op he.ok _ j v hv)
  rw [hop] at hcell
  have HDW := Lib.hid (fun (W : World) (h : Only No ((w.alloc (.cells (evA e (.slice da e.data.length dc)) 54)).alloc (.cells #[.string ⟨#[]⟩, .string ⟨#[99, 101, 108, 108, 115]⟩, .string ⟨#[116, 97, 98, 108, 101]⟩, .string ⟨#[119, 104, 111, 108, 101]⟩] 9)) W) => hd.no (hO.trans h))
  obtain ⟨RES, hRES⟩ : ∃ R, R = textM e := ⟨_, rfl⟩
  rw [← hRES]
  have HRES := Lib.hid (hRES.trans (show textM e = Lib.join (tellW e) [32] from rfl))
  clear hRES hi ht hop hd
  go_enter Try.func42, Try.ntmps42
  unfold evV
  go_upto_region 2 with fail
  have HOW := Lib.hid hO
  generalize ((w.alloc (.cells (evA e (.slice da e.data.length dc)) 54)).alloc (.cells #[.string ⟨#[]⟩, .string ⟨#[99, 101, 108, 108, 115]⟩, .string ⟨#[116, 97, 98, 108, 101]⟩, .string ⟨#[119, 104, 111, 108, 101]⟩] 9)) = w1 at *
  have HB := Lib.hid hb
  have HM := Lib.hid hm
  have HCELL := Lib.hid hcell
  have cK : w1.cell? ⟨w.heap.size, 0, none⟩ = some (.int .i64 e.kind) := hb.cell 0 _ rfl
  have c1 : w1.cell? ⟨w.heap.size, 1, none⟩ = some (.int .u8 e.rep) := hb.cell 1 _ rfl
  have cN : w1.cell? ⟨w.heap.size, 3, none⟩ = some (.int .i64 e.n) := hb.cell 3 _ rfl
  have c4 : w1.cell? ⟨w.heap.size, 4, none⟩ = some (.int .i64 e.at_) := hb.cell 4 _ rfl
  have cD : w1.cell? ⟨w.heap.size, 24, none⟩ = some (.slice da e.data.length dc) := hb.cell 24 _ (evA_data he.ok _)
  have cO : w1.cell? ⟨w.heap.size, 5, none⟩ = some (.int .i64 e.okind) := hcell w1 (Only.refl _ _) 0 _ rfl
  have c6 : w1.cell? ⟨w.heap.size, 6, none⟩ = some (.int .u16 e.cart) := hcell w1 (Only.refl _ _) 1 _ rfl
  clear hb hm hcell hO
  rw [k8] at cK
  have d1 := hD1.out
  obtain ⟨c, hc⟩ : ∃ c, e.data = [c] := by
    match hq : e.data, d1 with
    | [c], _ => exact ⟨c, rfl⟩
  have hsee := HDW.out w1 (Only.refl _ _)
  obtain ⟨a8, c8, hv8, -, hf8⟩ := hsee.form
  obtain ⟨b8, o8, rfl, hb8, hcell8⟩ := hf8 (by rw [hc]; simp [bys])
  simp only [Value.slice.injEq] at hv8
  obtain ⟨rfl, -, rfl⟩ := hv8
  have v8 := hcell8 0 (.int .u8 (c.toNat : Int)) (by rw [hc]; rfl)
  rw [Nat.add_zero] at v8
  have s_y := prt_size (c.toNat : Int) (by omega) (by have := c.toNat_lt; omega)
  have hPc := fun W : World => rprint_c (c.toNat : Int) W (by omega) (by have := c.toNat_lt; omega)
  have hwc : IntKind.i64.wrap (c.toNat : Int) = (c.toNat : Int) := IntWalk.i64_in _ (by have := c.toNat_lt; omega)
  obtain ⟨Y, hY⟩ : ∃ Y : ByteArray, Y = ⟨(printM (c.toNat : Int)).toArray⟩ := ⟨_, rfl⟩
  rw [← hY] at hPc s_y
  have z_y : (Y.size : Int) ≤ 3000 := by omega
  clear s_y
  have HY := Lib.hid hY
  have HCC := Lib.hid hc
  have hV8 := Lib.hid (fun (W : World) (h : Only No w1 W) => (h.cell (p := ⟨b8, o8, none⟩) hb8 id).trans v8)
  rw [d1] at cD
  clear hcell8 hf8 hsee hc hY v8 d1
  go_wp2_with fail
  have nn0 : ¬ 9223372036854775807 < 6 + A.size := by omega
  have nn1 : ¬ 9223372036854775807 < 6 + A.size + 1 := by omega
  have nn2 : ¬ 9223372036854775807 < 6 + A.size + 1 + N.size := by omega
  have nn3 : ¬ 9223372036854775807 < 6 + A.size + 1 + N.size + 1 := by omega
  have nn4 : ¬ 9223372036854775807 < 6 + A.size + 1 + N.size + 1 + Y.size := by omega
  have HK := Lib.hid (fun (w' : World) (h : Only No w1 w') => (show Only No w1 w' ∧ w'.cell? ⟨w.heap.size, 4, none⟩ = some (.int .i64 e.at_) ∧ w'.cell? ⟨w.heap.size, 3, none⟩ = some (.int .i64 e.n) ∧ w'.cell? ⟨w.heap.size, 24, none⟩ = some (.slice (some ⟨b8, o8, none⟩) 1 dc) ∧ w'.cell? ⟨b8, o8, none⟩ = some (.int .u8 (c.toNat : Int)) from ⟨h, (h.blk HB.out id).cell 4 _ rfl, (h.blk HB.out id).cell 3 _ rfl, ((h.blk HB.out id).cell 24 _ (evA_data he.ok _)).trans (congrArg (fun z => some (Value.slice (some ⟨b8, o8, none⟩) z dc)) hD1.out), hV8.out w' h⟩))
  go_region_held3 (fun w' => Only No w1 w' ∧ w'.cell? ⟨w.heap.size, 4, none⟩ = some (.int .i64 e.at_) ∧ w'.cell? ⟨w.heap.size, 3, none⟩ = some (.int .i64 e.n) ∧ w'.cell? ⟨w.heap.size, 24, none⟩ = some (.slice (some ⟨b8, o8, none⟩) 1 dc) ∧ w'.cell? ⟨b8, o8, none⟩ = some (.int .u8 (c.toNat : Int)))
    (first | exact HK.out _ (Only.refl _ _).drew | exact HK.out _ (Only.refl _ _) | assumption | (refine HK.out _ (Only.trans ?_ hOk); exact And.left (by assumption))) (first
    | (go_at_call 52; ((with_reducible first | refine (hP3 _).mono ?_ | refine (hP4 _).mono ?_ | refine (hPc _).mono ?_); rintro x w' ⟨rfl, rfl⟩))
    | fail)
  all_goals go_wp2_with fail
  all_goals go_ret
  all_goals rw [HRES.out, show tellW e = _ from (by unfold tellW; rw [if_neg (by omega), if_neg (by omega), if_neg (by omega), if_neg (by omega), if_neg (by omega), if_neg (by omega), if_neg (by omega), if_pos k8, if_pos hD1.out, HCC.out])]
  all_goals refine ⟨ret_eq (congrArg Value.string (ByteArray.ext (Array.ext' ?_))), HOW.out.drew⟩
  all_goals simp [ByteArray.data_append, GA.out, GN.out, HY.out, Lib.join, List.intercalate, List.intersperse, wk]
set_option maxRecDepth 100000 in
set_option maxHeartbeats 6400000 in
theorem rtext9_c (e : Ev) (he : e.In) (k9 : e.kind = 9) (dv : Value) (w : World) (hd : Sees w dv (bys e.data)) : Calls Try.prog 42 #[evV e dv] w fun x w' => x = .returned (.string ⟨(textM e).toArray⟩) ∧ Only No w w' := by
  obtain ⟨da, dc, rfl, -⟩ := hd.form
  rw [bys_len] at hd ⊢
  have s_rep := prt_size e.rep (by have := he.rep; omega) (by have := he.rep; omega)
  have s_dest := prt_size e.dest (by have := he.dest; omega) (by have := he.dest; omega)
  have s_cart := prt_size e.cart (by have := he.cart; omega) (by have := he.cart; omega)
  have s_at := prt_size e.at_ he.at_.1 he.at_.2
  have s_n := prt_size e.n he.n.1 he.n.2
  have s_on := prt_size e.onN he.onN.1 he.onN.2
  have s_item := wrd_size e.item he.ok.1
  have s_text := wrd_size e.text he.ok.2
  have s_hex := hex_size e.data he.data
  have hP1 := fun W : World => rprint_c e.rep W (by have := he.rep; omega) (by have := he.rep; omega)
  have hP2 := fun W : World => rprint_c e.dest W (by have := he.dest; omega) (by have := he.dest; omega)
  have hP3 := fun W : World => rprint_c e.at_ W he.at_.1 he.at_.2
  have hP4 := fun W : World => rprint_c e.n W he.n.1 he.n.2
  have hP5 := fun W : World => rprint_c e.cart W (by have := he.cart; omega) (by have := he.cart; omega)
  have hP6 := fun W : World => rprint_c e.onN W he.onN.1 he.onN.2
  obtain ⟨i0, i1, i2, i3, i4, i5, i6, i7, hi⟩ := eight he.ok.1
  obtain ⟨t0, t1, t2, t3, t4, t5, t6, t7, ht⟩ := eight he.ok.2
  have hNI := fun W : World => (show Calls Try.prog 79 #[.agg #[.int .u8 (i0.toNat : Int), .int .u8 (i1.toNat : Int), .int .u8 (i2.toNat : Int), .int .u8 (i3.toNat : Int), .int .u8 (i4.toNat : Int), .int .u8 (i5.toNat : Int), .int .u8 (i6.toNat : Int), .int .u8 (i7.toNat : Int)]] W fun x w' => x = .returned (.string ⟨(wordN e.item).toArray⟩) ∧ Only No W w' from by rw [hi]; exact rWord_c _ rfl W)
  have hNT := fun W : World => (show Calls Try.prog 79 #[.agg #[.int .u8 (t0.toNat : Int), .int .u8 (t1.toNat : Int), .int .u8 (t2.toNat : Int), .int .u8 (t3.toNat : Int), .int .u8 (t4.toNat : Int), .int .u8 (t5.toNat : Int), .int .u8 (t6.toNat : Int), .int .u8 (t7.toNat : Int)]] W fun x w' => x = .returned (.string ⟨(wordN e.text).toArray⟩) ∧ Only No W w' from by rw [ht]; exact rWord_c _ rfl W)
  have hX := fun (W : World) (h : Sees W (.slice da (bys e.data).length dc) (bys e.data)) => rhex_c _ e.data W h (by have := he.data; omega)
  simp only [bys_len] at hX
  obtain ⟨R, eqR⟩ : ∃ R : ByteArray, R = ⟨(printM e.rep).toArray⟩ := ⟨_, rfl⟩
  obtain ⟨D, eqD⟩ : ∃ D : ByteArray, D = ⟨(printM e.dest).toArray⟩ := ⟨_, rfl⟩
  obtain ⟨A, eqA⟩ : ∃ A : ByteArray, A = ⟨(printM e.at_).toArray⟩ := ⟨_, rfl⟩
  obtain ⟨N, eqN⟩ : ∃ N : ByteArray, N = ⟨(printM e.n).toArray⟩ := ⟨_, rfl⟩
  obtain ⟨C, eqC⟩ : ∃ C : ByteArray, C = ⟨(printM e.cart).toArray⟩ := ⟨_, rfl⟩
  obtain ⟨O, eqO⟩ : ∃ O : ByteArray, O = ⟨(printM e.onN).toArray⟩ := ⟨_, rfl⟩
  obtain ⟨I, eqI⟩ : ∃ I : ByteArray, I = ⟨(wordN e.item).toArray⟩ := ⟨_, rfl⟩
  obtain ⟨T, eqT⟩ : ∃ T : ByteArray, T = ⟨(wordN e.text).toArray⟩ := ⟨_, rfl⟩
  obtain ⟨X, eqX⟩ : ∃ X : ByteArray, X = ⟨(hexM e.data).toArray⟩ := ⟨_, rfl⟩
  rw [← eqR] at hP1
  rw [← eqD] at hP2
  rw [← eqA] at hP3
  rw [← eqN] at hP4
  rw [← eqC] at hP5
  rw [← eqO] at hP6
  rw [← eqI] at hNI
  rw [← eqT] at hNT
  rw [← eqX] at hX
  rw [← eqR] at s_rep
  have z_rep : (R.size : Int) ≤ 3000 := by omega
  have GR := Lib.hid eqR
  clear eqR s_rep
  rw [← eqD] at s_dest
  have z_dest : (D.size : Int) ≤ 3000 := by omega
  have GD := Lib.hid eqD
  clear eqD s_dest
  rw [← eqA] at s_at
  have z_at : (A.size : Int) ≤ 3000 := by omega
  have GA := Lib.hid eqA
  clear eqA s_at
  rw [← eqN] at s_n
  have z_n : (N.size : Int) ≤ 3000 := by omega
  have GN := Lib.hid eqN
  clear eqN s_n
  rw [← eqC] at s_cart
  have z_cart : (C.size : Int) ≤ 3000 := by omega
  have GC := Lib.hid eqC
  clear eqC s_cart
  rw [← eqO] at s_on
  have z_on : (O.size : Int) ≤ 3000 := by omega
  have GO := Lib.hid eqO
  clear eqO s_on
  rw [← eqI] at s_item
  have z_item : (I.size : Int) ≤ 3000 := by omega
  have GI := Lib.hid eqI
  clear eqI s_item
  rw [← eqT] at s_text
  have z_text : (T.size : Int) ≤ 3000 := by omega
  have GT := Lib.hid eqT
  clear eqT s_text
  rw [← eqX] at s_hex
  have z_hex : (X.size : Int) ≤ 3000 := by omega
  have GX := Lib.hid eqX
  clear eqX s_hex
  have w_rep : IntKind.i64.wrap e.rep = e.rep := IntWalk.i64_in _ (by have := he.rep; omega)
  have w_dest : IntKind.i64.wrap e.dest = e.dest := IntWalk.i64_in _ (by have := he.dest; omega)
  have w_cart : IntKind.i64.wrap e.cart = e.cart := IntWalk.i64_in _ (by have := he.cart; omega)
  have hO : Only No w ((w.alloc (.cells (evA e (.slice da e.data.length dc)) 54)).alloc (.cells #[.string ⟨#[]⟩, .string ⟨#[99, 101, 108, 108, 115]⟩, .string ⟨#[116, 97, 98, 108, 101]⟩, .string ⟨#[119, 104, 111, 108, 101]⟩] 9)) := ((Only.refl No w).alloc _).alloc _
  have hb : Blk ((w.alloc (.cells (evA e (.slice da e.data.length dc)) 54)).alloc (.cells #[.string ⟨#[]⟩, .string ⟨#[99, 101, 108, 108, 115]⟩, .string ⟨#[116, 97, 98, 108, 101]⟩, .string ⟨#[119, 104, 111, 108, 101]⟩] 9)) w.heap.size (evA e (.slice da e.data.length dc)) 54 := (Blk.new w _ _).alloc _
  have hm : Blk ((w.alloc (.cells (evA e (.slice da e.data.length dc)) 54)).alloc (.cells #[.string ⟨#[]⟩, .string ⟨#[99, 101, 108, 108, 115]⟩, .string ⟨#[116, 97, 98, 108, 101]⟩, .string ⟨#[119, 104, 111, 108, 101]⟩] 9)) (w.heap.size + 1) #[.string ⟨#[]⟩, .string ⟨#[99, 101, 108, 108, 115]⟩, .string ⟨#[116, 97, 98, 108, 101]⟩, .string ⟨#[119, 104, 111, 108, 101]⟩] 9 := by
    have h := Blk.new (w.alloc (.cells (evA e (.slice da e.data.length dc)) 54)) #[.string ⟨#[]⟩, .string ⟨#[99, 101, 108, 108, 115]⟩, .string ⟨#[116, 97, 98, 108, 101]⟩, .string ⟨#[119, 104, 111, 108, 101]⟩] 9
    rw [show (w.alloc (.cells (evA e (.slice da e.data.length dc)) 54)).heap.size = w.heap.size + 1 by simp] at h
    exact h
  have hop : (opOf e) = [.int .i64 e.okind, .int .u16 e.cart, .int .u8 (i0.toNat : Int), .int .u8 (i1.toNat : Int), .int .u8 (i2.toNat : Int), .int .u8 (i3.toNat : Int), .int .u8 (i4.toNat : Int), .int .u8 (i5.toNat : Int), .int .u8 (i6.toNat : Int), .int .u8 (i7.toNat : Int), .int .i64 e.onN, .int .u8 (t0.toNat : Int), .int .u8 (t1.toNat : Int), .int .u8 (t2.toNat : Int), .int .u8 (t3.toNat : Int), .int .u8 (t4.toNat : Int), .int .u8 (t5.toNat : Int), .int .u8 (t6.toNat : Int), .int .u8 (t7.toNat : Int)] := by unfold opOf; rw [hi, ht]; rfl
  have hcell : ∀ (W : World), Only No ((w.alloc (.cells (evA e (.slice da e.data.length dc)) 54)).alloc (.cells #[.string ⟨#[]⟩, .string ⟨#[99, 101, 108, 108, 115]⟩, .string ⟨#[116, 97, 98, 108, 101]⟩, .string ⟨#[119, 104, 111, 108, 101]⟩] 9)) W → ∀ j v, (opOf e)[j]? = some v → W.cell? ⟨w.heap.size, 5 + j, none⟩ = some v := fun W h j v hv => (h.blk hb id).cell (5 + j) v (evA_op he.ok _ j v hv)
  rw [hop] at hcell
  have HDW := Lib.hid (fun (W : World) (h : Only No ((w.alloc (.cells (evA e (.slice da e.data.length dc)) 54)).alloc (.cells #[.string ⟨#[]⟩, .string ⟨#[99, 101, 108, 108, 115]⟩, .string ⟨#[116, 97, 98, 108, 101]⟩, .string ⟨#[119, 104, 111, 108, 101]⟩] 9)) W) => hd.no (hO.trans h))
  obtain ⟨RES, hRES⟩ : ∃ R, R = textM e := ⟨_, rfl⟩
  rw [← hRES]
  have HRES := Lib.hid (hRES.trans (show textM e = Lib.join (tellW e) [32] from rfl))
  clear hRES hi ht hop hd
  go_enter Try.func42, Try.ntmps42
  unfold evV
  go_upto_region 2 with fail
  have HOW := Lib.hid hO
  generalize ((w.alloc (.cells (evA e (.slice da e.data.length dc)) 54)).alloc (.cells #[.string ⟨#[]⟩, .string ⟨#[99, 101, 108, 108, 115]⟩, .string ⟨#[116, 97, 98, 108, 101]⟩, .string ⟨#[119, 104, 111, 108, 101]⟩] 9)) = w1 at *
  have HB := Lib.hid hb
  have HM := Lib.hid hm
  have HCELL := Lib.hid hcell
  have cK : w1.cell? ⟨w.heap.size, 0, none⟩ = some (.int .i64 e.kind) := hb.cell 0 _ rfl
  have c1 : w1.cell? ⟨w.heap.size, 1, none⟩ = some (.int .u8 e.rep) := hb.cell 1 _ rfl
  have cN : w1.cell? ⟨w.heap.size, 3, none⟩ = some (.int .i64 e.n) := hb.cell 3 _ rfl
  have c4 : w1.cell? ⟨w.heap.size, 4, none⟩ = some (.int .i64 e.at_) := hb.cell 4 _ rfl
  have cD : w1.cell? ⟨w.heap.size, 24, none⟩ = some (.slice da e.data.length dc) := hb.cell 24 _ (evA_data he.ok _)
  have cO : w1.cell? ⟨w.heap.size, 5, none⟩ = some (.int .i64 e.okind) := hcell w1 (Only.refl _ _) 0 _ rfl
  have c6 : w1.cell? ⟨w.heap.size, 6, none⟩ = some (.int .u16 e.cart) := hcell w1 (Only.refl _ _) 1 _ rfl
  clear hb hm hcell hO
  rw [k9] at cK
  go_wp2_with fail
  have nn0 : ¬ 9223372036854775807 < 7 + D.size := by omega
  have nn1 : ¬ 9223372036854775807 < 7 + D.size + 1 := by omega
  have nn2 : ¬ 9223372036854775807 < 7 + D.size + 1 + X.size := by omega
  have HK := Lib.hid (fun (w' : World) (h : Only No w1 w') => (show Only No w1 w' ∧ w'.cell? ⟨w.heap.size, 2, none⟩ = some (.int .u8 e.dest) ∧ w'.cell? ⟨w.heap.size, 24, none⟩ = some (.slice da e.data.length dc) from ⟨h, (h.blk HB.out id).cell 2 _ rfl, (h.blk HB.out id).cell 24 _ (evA_data he.ok _)⟩))
  go_region_held3 (fun w' => Only No w1 w' ∧ w'.cell? ⟨w.heap.size, 2, none⟩ = some (.int .u8 e.dest) ∧ w'.cell? ⟨w.heap.size, 24, none⟩ = some (.slice da e.data.length dc))
    (first | exact HK.out _ (Only.refl _ _).drew | exact HK.out _ (Only.refl _ _) | assumption | (refine HK.out _ (Only.trans ?_ hOk); exact And.left (by assumption))) (first
    | (go_at_call 52; ((with_reducible first | refine (hP2 _).mono ?_); rintro x w' ⟨rfl, rfl⟩))
    | (go_at_call 21; ((with_reducible refine (hX _ (by first | exact HDW.out _ (And.left (by assumption)) | exact HDW.out _ (Only.refl _ _).drew | exact HDW.out _ (Only.refl _ _))).mono ?_); rintro x w' ⟨rfl, hOk⟩))
    | fail)
  all_goals have hOE : Only No w1 w' := And.left (by assumption)
  all_goals go_wp2_with fail
  all_goals go_ret
  all_goals rw [HRES.out, show tellW e = _ from (by unfold tellW; rw [if_neg (by omega), if_neg (by omega), if_neg (by omega), if_neg (by omega), if_neg (by omega), if_neg (by omega), if_neg (by omega), if_neg (by omega), if_pos k9])]
  all_goals refine ⟨ret_eq (congrArg Value.string (ByteArray.ext (Array.ext' ?_))), HOW.out.trans hOE⟩
  all_goals simp [ByteArray.data_append, GD.out, GX.out, Lib.join, List.intercalate, List.intersperse, wk]
end Go.Proofs.Ytlilhdkaaendlaa
