/- The reader of 'do' lines, once for each operation (printed by wip/tools/doings.py). No statement is proved here. -/
import Derived.Test.YtlilhdkaaendlaaReaders
namespace Go.Proofs.Ytlilhdkaaendlaa
open Go.RowKit

theorem WAt.via {w w' : World} {b rb : Nat} {e : Int} {l : List ByteArray} (h : WAt w b rb e l) {g : Nat} (hO : Only (· = g) w w') (hb : g ≠ b) (hr : g ≠ rb) : WAt w' b rb e l := by
  obtain ⟨v, q1, q2, q3, q4, q5⟩ := h
  exact ⟨v, hO.blk q1 (fun e => hb e.symm), q2.only hO (fun k hk e => hr (e.symm.trans (q3 k hk))), q3, q4, Nat.lt_of_lt_of_le q5 hO.size⟩
theorem evA_on {e : Ev} (h : e.Ok) (dv : Value) : (evA e dv)[15]? = some (.int .i64 e.onN) := by
  obtain ⟨a, b, c, d, f, g, i, j, hi⟩ := eight h.1
  simp [evA, evL, hi, bys]
theorem nmV_eq (n : List UInt8) : nmV n = .agg (bys n).toArray := rfl
theorem bys_len (n : List UInt8) : (bys n).length = n.length := by simp [bys]
theorem bys_one (n : List UInt8) : ∀ v ∈ bys n, v.oneCell' = true := by
  intro v hv
  simp only [bys, List.mem_map] at hv
  obtain ⟨c, -, rfl⟩ := hv
  rfl
/-- The own row behind a step of the words: what was known of it stands. -/
theorem own_row {w w1 : World} {b : Nat} {cs : Array Value} {t : TypeId} {g : Nat} (hb : Blk w g cs t) (hO : Only (· = b) w w1) (hne : g ≠ b) : Blk w1 g cs t := hO.blk hb hne
abbrev nilV : Value := .slice none 0 0
set_option maxRecDepth 100000 in
set_option maxHeartbeats 1600000 in
theorem do_add_c (b rb : Nat) (a q c i n : ByteArray) (w : World) (h : WAt w b rb 0 [a, q, c, i, n]) (hk : opW q = 1) (ha : a.size ≤ 1000000000) (hc : c.size ≤ 1000000000) (hi : i.size ≤ 1000000000) (hn : n.size ≤ 1000000000) :
    Calls Try.prog 66 #[.pointer (some ⟨b, 0, none⟩)] w (ReadR (doM a q c [i, n]) b rb w) := by
  obtain ⟨hlt, hlr, hrne⟩ := h.lt
  have h0 : WAt (w.alloc (.cells zero25 55)) b rb 0 [a, q, c, i, n] := h.only ((Only.refl _ _).alloc _)
  have HB := Lib.hid (byte_c b rb 0 a [q, c, i, n] _ h0 ha)
  have HX := fun (W : World) (e : Int) (h : WAt W b rb e [q, c, i, n]) => Lib.hid (next_c b rb e q [c, i, n] W h)
  have HC := fun (W : World) (e : Int) (h : WAt W b rb e [c, i, n]) => Lib.hid (number_c b rb e c [i, n] 65535 W h hc)
  have HI := fun (W : World) (e : Int) (h : WAt W b rb e [i, n]) => Lib.hid (name_c b rb e i [n] W h hi)
  have hln := ofN_len i.data.toList
  have HN := fun (W : World) (e : Int) (h : WAt W b rb e [n]) => Lib.hid (number_c b rb e n [] 4294967295 W h hn)
  have hb0 := Blk.new w zero25 55
  have hbc := parse_bd c.data.toList 65535 (by omega)
  rw [show parseM c.data.toList 0 65535 = numE 65535 c from rfl] at hbc
  have hD : doM a q c [i, n] = ({ kind := 1, rep := (numE 255 a).1, okind := 1, cart := (numE 65535 c).1, item := (ofN i.data.toList).1, onN := (numE 4294967295 n).1 }, keepE (keepE (keepE (numE 255 a).2 (numE 65535 c).2) (ofN i.data.toList).2) (numE 4294967295 n).2) := by
    unfold doM
    rw [hk]
    rfl
  rw [hD]
  obtain ⟨q1, q2, q3, q4, q5⟩ := ow_all q
  rw [hk] at q1 q2 q3 q4 q5
  replace q1 := q1.trans (show _ = true from rfl)
  replace q2 := q2.trans (show _ = false from rfl)
  replace q3 := q3.trans (show _ = false from rfl)
  replace q4 := q4.trans (show _ = false from rfl)
  replace q5 := q5.trans (show _ = false from rfl)
  rw [show numE 255 a = parseM a.data.toList 0 255 from rfl] at *
  rw [show numE 65535 c = parseM c.data.toList 0 65535 from rfl] at *
  obtain ⟨x1, e1, he1⟩ : ∃ x e, (x, e) = parseM a.data.toList 0 255 := ⟨_, _, rfl⟩
  obtain ⟨x3, e3, he3⟩ : ∃ x e, (x, e) = parseM c.data.toList 0 65535 := ⟨_, _, rfl⟩
  rw [← he1] at HB ⊢
  rw [← he3] at HC hbc ⊢
  obtain ⟨n4, e4, he4⟩ : ∃ x e, (x, e) = ofN i.data.toList := ⟨_, _, rfl⟩
  rw [← he4] at HI hln ⊢
  rw [show numE 4294967295 n = parseM n.data.toList 0 4294967295 from rfl]
  obtain ⟨x5, e5, he5⟩ : ∃ x e, (x, e) = parseM n.data.toList 0 4294967295 := ⟨_, _, rfl⟩
  rw [← he5] at HN ⊢
  have hw16 : IntKind.u16.wrap x3 = x3 := IntWalk.u16_in _ (by simp only at hbc; omega)
  clear hD he1 he3 he4 he5 h h0 hk hbc
  rw [zero25_eq] at hb0
  go_enter Try.func66, Try.ntmps66
  go_wp2_with fail
  refine HB.out.mono ?_
  rintro x w1 ⟨rfl, hW1, hO1⟩
  have z1 := hO1.size
  have z1' : w.heap.size + 1 ≤ w1.heap.size := by simpa using z1
  have hneb : w.heap.size ≠ b := by omega
  have hner : w.heap.size ≠ rb := by omega
  have hb1 := hO1.blk hb0 hneb
  have c0 := hb1.cell 0 _ rfl
  have f0 := hb1.free 0
  have c1 := hb1.cell 1 _ rfl
  have f1 := hb1.free 1
  go_wp2_with fail
  have hO2 : Only (· = w.heap.size) w1 ((w1.setCell ⟨w.heap.size, 0, none⟩ (.int .i64 1)).setCell ⟨w.heap.size, 1, none⟩ (.int .u8 x1)) := ((Only.refl (· = w.heap.size) w1).set1 0 _).set1 1 _
  have hb2 := (hb1.set 0 (.int .i64 1)).set 1 (.int .u8 x1)
  rw [set_kind, set_rep] at hb2
  clear c0 f0 c1 f1
  generalize hw2 : (w1.setCell ⟨w.heap.size, 0, none⟩ (.int .i64 1)).setCell ⟨w.heap.size, 1, none⟩ (.int .u8 x1) = w2 at *
  have hW2 := hW1.via hO2 hneb hner
  refine (HX _ _ hW2).out.mono ?_
  rintro x w3 ⟨rfl, hW3, hO3⟩
  have hb3 := own_row hb2 hO3 hneb
  go_wp2_with fail
  refine (HC _ _ hW3).out.mono ?_
  rintro x w4 ⟨rfl, hW4, hO4⟩
  have hb4 := own_row hb3 hO4 hneb
  have c6 := hb4.cell 6 _ rfl
  have f6 := hb4.free 6
  have hO5 : Only (· = w.heap.size) w4 (w4.setCell ⟨w.heap.size, 6, none⟩ (.int .u16 x3)) := (Only.refl (· = w.heap.size) w4).set1 6 _
  have hb5 := hb4.set 6 (.int .u16 x3)
  rw [set_cart] at hb5
  have hW5 := hW4.via hO5 hneb hner
  -- all that turned so far: the words, and the own row
  have hOA : Only (fun k => k = b ∨ k = w.heap.size) w (w4.setCell ⟨w.heap.size, 6, none⟩ (.int .u16 x3)) :=
    ((((((Only.refl _ w).alloc _).then hO1 (fun _ _ e => .inl e)).then hO2 (fun _ _ e => .inr e)).then hO3 (fun _ _ e => .inl e)).then hO4 (fun _ _ e => .inl e)).then hO5 (fun _ _ e => .inr e)
  go_wp2_with fail
  clear c6 f6
  generalize hw5 : w4.setCell ⟨w.heap.size, 6, none⟩ (.int .u16 x3) = w5 at *
  refine (HI _ _ hW5).out.mono ?_
  rintro x w6 ⟨rfl, hW6, hO6⟩
  have hb6 := own_row hb5 hO6 hneb
  go_wp2_with fail
  refine (HN _ _ hW6).out.mono ?_
  rintro x w7 ⟨rfl, hW7, hO7⟩
  have hb7 := own_row hb6 hO7 hneb
  have c5 := hb7.cell 5 _ rfl
  have f5 := hb7.free 5
  have hb8 := hb7.set 5 (.int .i64 1)
  rw [set_okind] at hb8
  have hO8 : Only (· = w.heap.size) w7 (w7.setCell ⟨w.heap.size, 5, none⟩ (.int .i64 1)) := (Only.refl (· = w.heap.size) _).set1 5 _
  have hok1 : Ev.Ok { kind := 1, rep := x1, okind := 1, cart := x3, item := n4 } := ⟨hln, rfl⟩
  have hb9 : Blk ((w7.setCell ⟨w.heap.size, 5, none⟩ (.int .i64 1)).setRow w.heap.size (evA { kind := 1, rep := x1, okind := 1, cart := x3, item := n4 } nilV)) w.heap.size (evA { kind := 1, rep := x1, okind := 1, cart := x3, item := n4 } nilV) 55 := blk_setRow hb8 _
  have hO9 : Only (· = w.heap.size) w7 ((w7.setCell ⟨w.heap.size, 5, none⟩ (.int .i64 1)).setRow w.heap.size (evA { kind := 1, rep := x1, okind := 1, cart := x3, item := n4 } nilV)) := only_setRow hO8 _ _ (fun _ => rfl)
  have c15 := hb9.cell 15 _ (evA_on hok1 nilV)
  have f15 := hb9.free 15
  have hb10 := hb9.set 15 (.int .i64 x5)
  rw [set_on hok1] at hb10
  have hO10 := hO9.set1 15 (.int .i64 x5)
  have hok : Ev.Ok { kind := 1, rep := x1, okind := 1, cart := x3, item := n4, onN := x5 } := ⟨hln, rfl⟩
  have hWF := hW7.via hO10 hneb hner
  go_wp2_with (first
    | (refine wpList_store_in rfl 49 (.tmp 33) (.tmp 27) rfl w.heap.size 7 (bys n4) rfl rfl _ _ (evA { kind := 1, rep := x1, okind := 1, cart := x3, item := n4 } nilV) hb8 (by rw [evA_size ⟨rfl, rfl⟩, bys_len, hln]; decide) (by rw [bys_len, hln]; exact info_name) (bys_one _) (put_item ⟨rfl, rfl⟩ nilV n4 hln) ?_)
    | (refine wpList_load_row rfl 55 (.tmp 2) rfl w.heap.size rfl _ _ (0, 0) _ hb10 Try.underlying55 rfl (info_evA hok _) ?_)
    | (refine wpList_store_row rfl 55 (.tmp 2) (.tmp 71) rfl w.heap.size (evA { kind := 1, rep := x1, okind := 1, cart := x3, item := n4, onN := x5 } nilV) rfl rfl _ _ hb10 (info_evA hok _) rfl (one_evA _ rfl) ?_))
  refine bodyPost_ret (results_cell_row rfl _ _ w.heap.size _ (evA { kind := 1, rep := x1, okind := 1, cart := x3, item := n4, onN := x5 } nilV) _ _ rfl (blk_setRow hb10 _) Try.underlying55 rfl (info_evA hok _)) rfl ?_
  exact ⟨_, rfl, Sees.nil _ _ _, fun k h => by simp [Value.ownBlock] at h, hWF.put hneb hner _, ((((hOA.then hO6 (fun _ _ e => .inl e)).then hO7 (fun _ _ e => .inl e)).then hO10 (fun _ _ e => .inr e)).then (T := (· = w.heap.size)) (only_setRow (Only.refl _ _) _ _ (fun _ => rfl)) (fun _ _ e => .inr e)).mono (fun k hk h => h.elim id (fun e => by exfalso; omega))⟩
set_option maxRecDepth 100000 in
set_option maxHeartbeats 1600000 in
theorem do_remove_c (b rb : Nat) (a q c i : ByteArray) (w : World) (h : WAt w b rb 0 [a, q, c, i]) (hk : opW q = 2) (ha : a.size ≤ 1000000000) (hc : c.size ≤ 1000000000) (hi : i.size ≤ 1000000000) :
    Calls Try.prog 66 #[.pointer (some ⟨b, 0, none⟩)] w (ReadR (doM a q c [i]) b rb w) := by
  obtain ⟨hlt, hlr, hrne⟩ := h.lt
  have h0 : WAt (w.alloc (.cells zero25 55)) b rb 0 [a, q, c, i] := h.only ((Only.refl _ _).alloc _)
  have HB := Lib.hid (byte_c b rb 0 a [q, c, i] _ h0 ha)
  have HX := fun (W : World) (e : Int) (h : WAt W b rb e [q, c, i]) => Lib.hid (next_c b rb e q [c, i] W h)
  have HC := fun (W : World) (e : Int) (h : WAt W b rb e [c, i]) => Lib.hid (number_c b rb e c [i] 65535 W h hc)
  have HI := fun (W : World) (e : Int) (h : WAt W b rb e [i]) => Lib.hid (name_c b rb e i [] W h hi)
  have hln := ofN_len i.data.toList
  have hb0 := Blk.new w zero25 55
  have hbc := parse_bd c.data.toList 65535 (by omega)
  rw [show parseM c.data.toList 0 65535 = numE 65535 c from rfl] at hbc
  have hD : doM a q c [i] = ({ kind := 1, rep := (numE 255 a).1, okind := 2, cart := (numE 65535 c).1, item := (ofN i.data.toList).1 }, keepE (keepE (numE 255 a).2 (numE 65535 c).2) (ofN i.data.toList).2) := by
    unfold doM
    rw [hk]
    rfl
  rw [hD]
  obtain ⟨q1, q2, q3, q4, q5⟩ := ow_all q
  rw [hk] at q1 q2 q3 q4 q5
  replace q1 := q1.trans (show _ = false from rfl)
  replace q2 := q2.trans (show _ = true from rfl)
  replace q3 := q3.trans (show _ = false from rfl)
  replace q4 := q4.trans (show _ = false from rfl)
  replace q5 := q5.trans (show _ = false from rfl)
  rw [show numE 255 a = parseM a.data.toList 0 255 from rfl] at *
  rw [show numE 65535 c = parseM c.data.toList 0 65535 from rfl] at *
  obtain ⟨x1, e1, he1⟩ : ∃ x e, (x, e) = parseM a.data.toList 0 255 := ⟨_, _, rfl⟩
  obtain ⟨x3, e3, he3⟩ : ∃ x e, (x, e) = parseM c.data.toList 0 65535 := ⟨_, _, rfl⟩
  rw [← he1] at HB ⊢
  rw [← he3] at HC hbc ⊢
  obtain ⟨n4, e4, he4⟩ : ∃ x e, (x, e) = ofN i.data.toList := ⟨_, _, rfl⟩
  rw [← he4] at HI hln ⊢
  have hw16 : IntKind.u16.wrap x3 = x3 := IntWalk.u16_in _ (by simp only at hbc; omega)
  clear hD he1 he3 he4 h h0 hk hbc
  rw [zero25_eq] at hb0
  go_enter Try.func66, Try.ntmps66
  go_wp2_with fail
  refine HB.out.mono ?_
  rintro x w1 ⟨rfl, hW1, hO1⟩
  have z1 := hO1.size
  have z1' : w.heap.size + 1 ≤ w1.heap.size := by simpa using z1
  have hneb : w.heap.size ≠ b := by omega
  have hner : w.heap.size ≠ rb := by omega
  have hb1 := hO1.blk hb0 hneb
  have c0 := hb1.cell 0 _ rfl
  have f0 := hb1.free 0
  have c1 := hb1.cell 1 _ rfl
  have f1 := hb1.free 1
  go_wp2_with fail
  have hO2 : Only (· = w.heap.size) w1 ((w1.setCell ⟨w.heap.size, 0, none⟩ (.int .i64 1)).setCell ⟨w.heap.size, 1, none⟩ (.int .u8 x1)) := ((Only.refl (· = w.heap.size) w1).set1 0 _).set1 1 _
  have hb2 := (hb1.set 0 (.int .i64 1)).set 1 (.int .u8 x1)
  rw [set_kind, set_rep] at hb2
  clear c0 f0 c1 f1
  generalize hw2 : (w1.setCell ⟨w.heap.size, 0, none⟩ (.int .i64 1)).setCell ⟨w.heap.size, 1, none⟩ (.int .u8 x1) = w2 at *
  have hW2 := hW1.via hO2 hneb hner
  refine (HX _ _ hW2).out.mono ?_
  rintro x w3 ⟨rfl, hW3, hO3⟩
  have hb3 := own_row hb2 hO3 hneb
  go_wp2_with fail
  refine (HC _ _ hW3).out.mono ?_
  rintro x w4 ⟨rfl, hW4, hO4⟩
  have hb4 := own_row hb3 hO4 hneb
  have c6 := hb4.cell 6 _ rfl
  have f6 := hb4.free 6
  have hO5 : Only (· = w.heap.size) w4 (w4.setCell ⟨w.heap.size, 6, none⟩ (.int .u16 x3)) := (Only.refl (· = w.heap.size) w4).set1 6 _
  have hb5 := hb4.set 6 (.int .u16 x3)
  rw [set_cart] at hb5
  have hW5 := hW4.via hO5 hneb hner
  -- all that turned so far: the words, and the own row
  have hOA : Only (fun k => k = b ∨ k = w.heap.size) w (w4.setCell ⟨w.heap.size, 6, none⟩ (.int .u16 x3)) :=
    ((((((Only.refl _ w).alloc _).then hO1 (fun _ _ e => .inl e)).then hO2 (fun _ _ e => .inr e)).then hO3 (fun _ _ e => .inl e)).then hO4 (fun _ _ e => .inl e)).then hO5 (fun _ _ e => .inr e)
  go_wp2_with fail
  clear c6 f6
  generalize hw5 : w4.setCell ⟨w.heap.size, 6, none⟩ (.int .u16 x3) = w5 at *
  refine (HI _ _ hW5).out.mono ?_
  rintro x w6 ⟨rfl, hW6, hO6⟩
  have hb6 := own_row hb5 hO6 hneb
  have c5 := hb6.cell 5 _ rfl
  have f5 := hb6.free 5
  have hb8 := hb6.set 5 (.int .i64 2)
  rw [set_okind] at hb8
  have hO8 : Only (· = w.heap.size) w6 (w6.setCell ⟨w.heap.size, 5, none⟩ (.int .i64 2)) := (Only.refl (· = w.heap.size) _).set1 5 _
  have hok1 : Ev.Ok { kind := 1, rep := x1, okind := 2, cart := x3, item := n4 } := ⟨hln, rfl⟩
  have hb9 : Blk ((w6.setCell ⟨w.heap.size, 5, none⟩ (.int .i64 2)).setRow w.heap.size (evA { kind := 1, rep := x1, okind := 2, cart := x3, item := n4 } nilV)) w.heap.size (evA { kind := 1, rep := x1, okind := 2, cart := x3, item := n4 } nilV) 55 := blk_setRow hb8 _
  have hO9 : Only (· = w.heap.size) w6 ((w6.setCell ⟨w.heap.size, 5, none⟩ (.int .i64 2)).setRow w.heap.size (evA { kind := 1, rep := x1, okind := 2, cart := x3, item := n4 } nilV)) := only_setRow hO8 _ _ (fun _ => rfl)
  have hok := hok1
  have hWF := hW6.via hO9 hneb hner
  go_wp2_with (first
    | (refine wpList_store_in rfl 49 (.tmp 45) (.tmp 41) rfl w.heap.size 7 (bys n4) rfl rfl _ _ (evA { kind := 1, rep := x1, okind := 2, cart := x3, item := n4 } nilV) hb8 (by rw [evA_size ⟨rfl, rfl⟩, bys_len, hln]; decide) (by rw [bys_len, hln]; exact info_name) (bys_one _) (put_item ⟨rfl, rfl⟩ nilV n4 hln) ?_)
    | (refine wpList_load_row rfl 55 (.tmp 2) rfl w.heap.size rfl _ _ (0, 0) _ hb9 Try.underlying55 rfl (info_evA hok _) ?_)
    | (refine wpList_store_row rfl 55 (.tmp 2) (.tmp 71) rfl w.heap.size (evA { kind := 1, rep := x1, okind := 2, cart := x3, item := n4 } nilV) rfl rfl _ _ hb9 (info_evA hok _) rfl (one_evA _ rfl) ?_))
  refine bodyPost_ret (results_cell_row rfl _ _ w.heap.size _ (evA { kind := 1, rep := x1, okind := 2, cart := x3, item := n4 } nilV) _ _ rfl (blk_setRow hb9 _) Try.underlying55 rfl (info_evA hok _)) rfl ?_
  exact ⟨_, rfl, Sees.nil _ _ _, fun k h => by simp [Value.ownBlock] at h, hWF.put hneb hner _, (((hOA.then hO6 (fun _ _ e => .inl e)).then hO9 (fun _ _ e => .inr e)).then (T := (· = w.heap.size)) (only_setRow (Only.refl _ _) _ _ (fun _ => rfl)) (fun _ _ e => .inr e)).mono (fun k hk h => h.elim id (fun e => by exfalso; omega))⟩
set_option maxRecDepth 100000 in
set_option maxHeartbeats 1600000 in
theorem do_set_c (b rb : Nat) (a q c i n : ByteArray) (w : World) (h : WAt w b rb 0 [a, q, c, i, n]) (hk : opW q = 3) (ha : a.size ≤ 1000000000) (hc : c.size ≤ 1000000000) (hi : i.size ≤ 1000000000) (hn : n.size ≤ 1000000000) :
    Calls Try.prog 66 #[.pointer (some ⟨b, 0, none⟩)] w (ReadR (doM a q c [i, n]) b rb w) := by
  obtain ⟨hlt, hlr, hrne⟩ := h.lt
  have h0 : WAt (w.alloc (.cells zero25 55)) b rb 0 [a, q, c, i, n] := h.only ((Only.refl _ _).alloc _)
  have HB := Lib.hid (byte_c b rb 0 a [q, c, i, n] _ h0 ha)
  have HX := fun (W : World) (e : Int) (h : WAt W b rb e [q, c, i, n]) => Lib.hid (next_c b rb e q [c, i, n] W h)
  have HC := fun (W : World) (e : Int) (h : WAt W b rb e [c, i, n]) => Lib.hid (number_c b rb e c [i, n] 65535 W h hc)
  have HI := fun (W : World) (e : Int) (h : WAt W b rb e [i, n]) => Lib.hid (name_c b rb e i [n] W h hi)
  have hln := ofN_len i.data.toList
  have HN := fun (W : World) (e : Int) (h : WAt W b rb e [n]) => Lib.hid (number_c b rb e n [] 4294967295 W h hn)
  have hb0 := Blk.new w zero25 55
  have hbc := parse_bd c.data.toList 65535 (by omega)
  rw [show parseM c.data.toList 0 65535 = numE 65535 c from rfl] at hbc
  have hD : doM a q c [i, n] = ({ kind := 1, rep := (numE 255 a).1, okind := 3, cart := (numE 65535 c).1, item := (ofN i.data.toList).1, onN := (numE 4294967295 n).1 }, keepE (keepE (keepE (numE 255 a).2 (numE 65535 c).2) (ofN i.data.toList).2) (numE 4294967295 n).2) := by
    unfold doM
    rw [hk]
    rfl
  rw [hD]
  obtain ⟨q1, q2, q3, q4, q5⟩ := ow_all q
  rw [hk] at q1 q2 q3 q4 q5
  replace q1 := q1.trans (show _ = false from rfl)
  replace q2 := q2.trans (show _ = false from rfl)
  replace q3 := q3.trans (show _ = true from rfl)
  replace q4 := q4.trans (show _ = false from rfl)
  replace q5 := q5.trans (show _ = false from rfl)
  rw [show numE 255 a = parseM a.data.toList 0 255 from rfl] at *
  rw [show numE 65535 c = parseM c.data.toList 0 65535 from rfl] at *
  obtain ⟨x1, e1, he1⟩ : ∃ x e, (x, e) = parseM a.data.toList 0 255 := ⟨_, _, rfl⟩
  obtain ⟨x3, e3, he3⟩ : ∃ x e, (x, e) = parseM c.data.toList 0 65535 := ⟨_, _, rfl⟩
  rw [← he1] at HB ⊢
  rw [← he3] at HC hbc ⊢
  obtain ⟨n4, e4, he4⟩ : ∃ x e, (x, e) = ofN i.data.toList := ⟨_, _, rfl⟩
  rw [← he4] at HI hln ⊢
  rw [show numE 4294967295 n = parseM n.data.toList 0 4294967295 from rfl]
  obtain ⟨x5, e5, he5⟩ : ∃ x e, (x, e) = parseM n.data.toList 0 4294967295 := ⟨_, _, rfl⟩
  rw [← he5] at HN ⊢
  have hw16 : IntKind.u16.wrap x3 = x3 := IntWalk.u16_in _ (by simp only at hbc; omega)
  clear hD he1 he3 he4 he5 h h0 hk hbc
  rw [zero25_eq] at hb0
  go_enter Try.func66, Try.ntmps66
  go_wp2_with fail
  refine HB.out.mono ?_
  rintro x w1 ⟨rfl, hW1, hO1⟩
  have z1 := hO1.size
  have z1' : w.heap.size + 1 ≤ w1.heap.size := by simpa using z1
  have hneb : w.heap.size ≠ b := by omega
  have hner : w.heap.size ≠ rb := by omega
  have hb1 := hO1.blk hb0 hneb
  have c0 := hb1.cell 0 _ rfl
  have f0 := hb1.free 0
  have c1 := hb1.cell 1 _ rfl
  have f1 := hb1.free 1
  go_wp2_with fail
  have hO2 : Only (· = w.heap.size) w1 ((w1.setCell ⟨w.heap.size, 0, none⟩ (.int .i64 1)).setCell ⟨w.heap.size, 1, none⟩ (.int .u8 x1)) := ((Only.refl (· = w.heap.size) w1).set1 0 _).set1 1 _
  have hb2 := (hb1.set 0 (.int .i64 1)).set 1 (.int .u8 x1)
  rw [set_kind, set_rep] at hb2
  clear c0 f0 c1 f1
  generalize hw2 : (w1.setCell ⟨w.heap.size, 0, none⟩ (.int .i64 1)).setCell ⟨w.heap.size, 1, none⟩ (.int .u8 x1) = w2 at *
  have hW2 := hW1.via hO2 hneb hner
  refine (HX _ _ hW2).out.mono ?_
  rintro x w3 ⟨rfl, hW3, hO3⟩
  have hb3 := own_row hb2 hO3 hneb
  go_wp2_with fail
  refine (HC _ _ hW3).out.mono ?_
  rintro x w4 ⟨rfl, hW4, hO4⟩
  have hb4 := own_row hb3 hO4 hneb
  have c6 := hb4.cell 6 _ rfl
  have f6 := hb4.free 6
  have hO5 : Only (· = w.heap.size) w4 (w4.setCell ⟨w.heap.size, 6, none⟩ (.int .u16 x3)) := (Only.refl (· = w.heap.size) w4).set1 6 _
  have hb5 := hb4.set 6 (.int .u16 x3)
  rw [set_cart] at hb5
  have hW5 := hW4.via hO5 hneb hner
  -- all that turned so far: the words, and the own row
  have hOA : Only (fun k => k = b ∨ k = w.heap.size) w (w4.setCell ⟨w.heap.size, 6, none⟩ (.int .u16 x3)) :=
    ((((((Only.refl _ w).alloc _).then hO1 (fun _ _ e => .inl e)).then hO2 (fun _ _ e => .inr e)).then hO3 (fun _ _ e => .inl e)).then hO4 (fun _ _ e => .inl e)).then hO5 (fun _ _ e => .inr e)
  go_wp2_with fail
  clear c6 f6
  generalize hw5 : w4.setCell ⟨w.heap.size, 6, none⟩ (.int .u16 x3) = w5 at *
  refine (HI _ _ hW5).out.mono ?_
  rintro x w6 ⟨rfl, hW6, hO6⟩
  have hb6 := own_row hb5 hO6 hneb
  go_wp2_with fail
  refine (HN _ _ hW6).out.mono ?_
  rintro x w7 ⟨rfl, hW7, hO7⟩
  have hb7 := own_row hb6 hO7 hneb
  have c5 := hb7.cell 5 _ rfl
  have f5 := hb7.free 5
  have hb8 := hb7.set 5 (.int .i64 3)
  rw [set_okind] at hb8
  have hO8 : Only (· = w.heap.size) w7 (w7.setCell ⟨w.heap.size, 5, none⟩ (.int .i64 3)) := (Only.refl (· = w.heap.size) _).set1 5 _
  have hok1 : Ev.Ok { kind := 1, rep := x1, okind := 3, cart := x3, item := n4 } := ⟨hln, rfl⟩
  have hb9 : Blk ((w7.setCell ⟨w.heap.size, 5, none⟩ (.int .i64 3)).setRow w.heap.size (evA { kind := 1, rep := x1, okind := 3, cart := x3, item := n4 } nilV)) w.heap.size (evA { kind := 1, rep := x1, okind := 3, cart := x3, item := n4 } nilV) 55 := blk_setRow hb8 _
  have hO9 : Only (· = w.heap.size) w7 ((w7.setCell ⟨w.heap.size, 5, none⟩ (.int .i64 3)).setRow w.heap.size (evA { kind := 1, rep := x1, okind := 3, cart := x3, item := n4 } nilV)) := only_setRow hO8 _ _ (fun _ => rfl)
  have c15 := hb9.cell 15 _ (evA_on hok1 nilV)
  have f15 := hb9.free 15
  have hb10 := hb9.set 15 (.int .i64 x5)
  rw [set_on hok1] at hb10
  have hO10 := hO9.set1 15 (.int .i64 x5)
  have hok : Ev.Ok { kind := 1, rep := x1, okind := 3, cart := x3, item := n4, onN := x5 } := ⟨hln, rfl⟩
  have hWF := hW7.via hO10 hneb hner
  go_wp2_with (first
    | (refine wpList_store_in rfl 49 (.tmp 58) (.tmp 52) rfl w.heap.size 7 (bys n4) rfl rfl _ _ (evA { kind := 1, rep := x1, okind := 3, cart := x3, item := n4 } nilV) hb8 (by rw [evA_size ⟨rfl, rfl⟩, bys_len, hln]; decide) (by rw [bys_len, hln]; exact info_name) (bys_one _) (put_item ⟨rfl, rfl⟩ nilV n4 hln) ?_)
    | (refine wpList_load_row rfl 55 (.tmp 2) rfl w.heap.size rfl _ _ (0, 0) _ hb10 Try.underlying55 rfl (info_evA hok _) ?_)
    | (refine wpList_store_row rfl 55 (.tmp 2) (.tmp 71) rfl w.heap.size (evA { kind := 1, rep := x1, okind := 3, cart := x3, item := n4, onN := x5 } nilV) rfl rfl _ _ hb10 (info_evA hok _) rfl (one_evA _ rfl) ?_))
  refine bodyPost_ret (results_cell_row rfl _ _ w.heap.size _ (evA { kind := 1, rep := x1, okind := 3, cart := x3, item := n4, onN := x5 } nilV) _ _ rfl (blk_setRow hb10 _) Try.underlying55 rfl (info_evA hok _)) rfl ?_
  exact ⟨_, rfl, Sees.nil _ _ _, fun k h => by simp [Value.ownBlock] at h, hWF.put hneb hner _, ((((hOA.then hO6 (fun _ _ e => .inl e)).then hO7 (fun _ _ e => .inl e)).then hO10 (fun _ _ e => .inr e)).then (T := (· = w.heap.size)) (only_setRow (Only.refl _ _) _ _ (fun _ => rfl)) (fun _ _ e => .inr e)).mono (fun k hk h => h.elim id (fun e => by exfalso; omega))⟩
set_option maxRecDepth 100000 in
set_option maxHeartbeats 1600000 in
theorem do_write_c (b rb : Nat) (a q c t : ByteArray) (w : World) (h : WAt w b rb 0 [a, q, c, t]) (hk : opW q = 4) (ha : a.size ≤ 1000000000) (hc : c.size ≤ 1000000000) (ht : t.size ≤ 1000000000) :
    Calls Try.prog 66 #[.pointer (some ⟨b, 0, none⟩)] w (ReadR (doM a q c [t]) b rb w) := by
  obtain ⟨hlt, hlr, hrne⟩ := h.lt
  have h0 : WAt (w.alloc (.cells zero25 55)) b rb 0 [a, q, c, t] := h.only ((Only.refl _ _).alloc _)
  have HB := Lib.hid (byte_c b rb 0 a [q, c, t] _ h0 ha)
  have HX := fun (W : World) (e : Int) (h : WAt W b rb e [q, c, t]) => Lib.hid (next_c b rb e q [c, t] W h)
  have HC := fun (W : World) (e : Int) (h : WAt W b rb e [c, t]) => Lib.hid (number_c b rb e c [t] 65535 W h hc)
  have HI := fun (W : World) (e : Int) (h : WAt W b rb e [t]) => Lib.hid (wtext_c b rb e t [] W h ht)
  have hln : (textN t).1.length = 8 := by unfold textN; split; rfl; exact ofN_len _
  have hb0 := Blk.new w zero25 55
  have hbc := parse_bd c.data.toList 65535 (by omega)
  rw [show parseM c.data.toList 0 65535 = numE 65535 c from rfl] at hbc
  have hD : doM a q c [t] = ({ kind := 1, rep := (numE 255 a).1, okind := 4, cart := (numE 65535 c).1, text := (textN t).1 }, keepE (keepE (numE 255 a).2 (numE 65535 c).2) (textN t).2) := by
    unfold doM
    rw [hk]
    rfl
  rw [hD]
  obtain ⟨q1, q2, q3, q4, q5⟩ := ow_all q
  rw [hk] at q1 q2 q3 q4 q5
  replace q1 := q1.trans (show _ = false from rfl)
  replace q2 := q2.trans (show _ = false from rfl)
  replace q3 := q3.trans (show _ = false from rfl)
  replace q4 := q4.trans (show _ = true from rfl)
  replace q5 := q5.trans (show _ = false from rfl)
  rw [show numE 255 a = parseM a.data.toList 0 255 from rfl] at *
  rw [show numE 65535 c = parseM c.data.toList 0 65535 from rfl] at *
  obtain ⟨x1, e1, he1⟩ : ∃ x e, (x, e) = parseM a.data.toList 0 255 := ⟨_, _, rfl⟩
  obtain ⟨x3, e3, he3⟩ : ∃ x e, (x, e) = parseM c.data.toList 0 65535 := ⟨_, _, rfl⟩
  rw [← he1] at HB ⊢
  rw [← he3] at HC hbc ⊢
  obtain ⟨n4, e4, he4⟩ : ∃ x e, (x, e) = textN t := ⟨_, _, rfl⟩
  rw [← he4] at HI hln ⊢
  have hw16 : IntKind.u16.wrap x3 = x3 := IntWalk.u16_in _ (by simp only at hbc; omega)
  clear hD he1 he3 he4 h h0 hk hbc
  rw [zero25_eq] at hb0
  go_enter Try.func66, Try.ntmps66
  go_wp2_with fail
  refine HB.out.mono ?_
  rintro x w1 ⟨rfl, hW1, hO1⟩
  have z1 := hO1.size
  have z1' : w.heap.size + 1 ≤ w1.heap.size := by simpa using z1
  have hneb : w.heap.size ≠ b := by omega
  have hner : w.heap.size ≠ rb := by omega
  have hb1 := hO1.blk hb0 hneb
  have c0 := hb1.cell 0 _ rfl
  have f0 := hb1.free 0
  have c1 := hb1.cell 1 _ rfl
  have f1 := hb1.free 1
  go_wp2_with fail
  have hO2 : Only (· = w.heap.size) w1 ((w1.setCell ⟨w.heap.size, 0, none⟩ (.int .i64 1)).setCell ⟨w.heap.size, 1, none⟩ (.int .u8 x1)) := ((Only.refl (· = w.heap.size) w1).set1 0 _).set1 1 _
  have hb2 := (hb1.set 0 (.int .i64 1)).set 1 (.int .u8 x1)
  rw [set_kind, set_rep] at hb2
  clear c0 f0 c1 f1
  generalize hw2 : (w1.setCell ⟨w.heap.size, 0, none⟩ (.int .i64 1)).setCell ⟨w.heap.size, 1, none⟩ (.int .u8 x1) = w2 at *
  have hW2 := hW1.via hO2 hneb hner
  refine (HX _ _ hW2).out.mono ?_
  rintro x w3 ⟨rfl, hW3, hO3⟩
  have hb3 := own_row hb2 hO3 hneb
  go_wp2_with fail
  refine (HC _ _ hW3).out.mono ?_
  rintro x w4 ⟨rfl, hW4, hO4⟩
  have hb4 := own_row hb3 hO4 hneb
  have c6 := hb4.cell 6 _ rfl
  have f6 := hb4.free 6
  have hO5 : Only (· = w.heap.size) w4 (w4.setCell ⟨w.heap.size, 6, none⟩ (.int .u16 x3)) := (Only.refl (· = w.heap.size) w4).set1 6 _
  have hb5 := hb4.set 6 (.int .u16 x3)
  rw [set_cart] at hb5
  have hW5 := hW4.via hO5 hneb hner
  -- all that turned so far: the words, and the own row
  have hOA : Only (fun k => k = b ∨ k = w.heap.size) w (w4.setCell ⟨w.heap.size, 6, none⟩ (.int .u16 x3)) :=
    ((((((Only.refl _ w).alloc _).then hO1 (fun _ _ e => .inl e)).then hO2 (fun _ _ e => .inr e)).then hO3 (fun _ _ e => .inl e)).then hO4 (fun _ _ e => .inl e)).then hO5 (fun _ _ e => .inr e)
  go_wp2_with fail
  clear c6 f6
  generalize hw5 : w4.setCell ⟨w.heap.size, 6, none⟩ (.int .u16 x3) = w5 at *
  refine (HI _ _ hW5).out.mono ?_
  rintro x w6 ⟨rfl, hW6, hO6⟩
  have hb6 := own_row hb5 hO6 hneb
  have c5 := hb6.cell 5 _ rfl
  have f5 := hb6.free 5
  have hb8 := hb6.set 5 (.int .i64 4)
  rw [set_okind] at hb8
  have hO8 : Only (· = w.heap.size) w6 (w6.setCell ⟨w.heap.size, 5, none⟩ (.int .i64 4)) := (Only.refl (· = w.heap.size) _).set1 5 _
  have hok1 : Ev.Ok { kind := 1, rep := x1, okind := 4, cart := x3, text := n4 } := ⟨rfl, hln⟩
  have hb9 : Blk ((w6.setCell ⟨w.heap.size, 5, none⟩ (.int .i64 4)).setRow w.heap.size (evA { kind := 1, rep := x1, okind := 4, cart := x3, text := n4 } nilV)) w.heap.size (evA { kind := 1, rep := x1, okind := 4, cart := x3, text := n4 } nilV) 55 := blk_setRow hb8 _
  have hO9 : Only (· = w.heap.size) w6 ((w6.setCell ⟨w.heap.size, 5, none⟩ (.int .i64 4)).setRow w.heap.size (evA { kind := 1, rep := x1, okind := 4, cart := x3, text := n4 } nilV)) := only_setRow hO8 _ _ (fun _ => rfl)
  have hok := hok1
  have hWF := hW6.via hO9 hneb hner
  go_wp2_with (first
    | (refine wpList_store_in rfl 49 (.tmp 70) (.tmp 66) rfl w.heap.size 16 (bys n4) rfl rfl _ _ (evA { kind := 1, rep := x1, okind := 4, cart := x3, text := n4 } nilV) hb8 (by rw [evA_size ⟨rfl, rfl⟩, bys_len, hln]; decide) (by rw [bys_len, hln]; exact info_name) (bys_one _) (put_text ⟨rfl, rfl⟩ nilV n4 hln) ?_)
    | (refine wpList_load_row rfl 55 (.tmp 2) rfl w.heap.size rfl _ _ (0, 0) _ hb9 Try.underlying55 rfl (info_evA hok _) ?_)
    | (refine wpList_store_row rfl 55 (.tmp 2) (.tmp 71) rfl w.heap.size (evA { kind := 1, rep := x1, okind := 4, cart := x3, text := n4 } nilV) rfl rfl _ _ hb9 (info_evA hok _) rfl (one_evA _ rfl) ?_))
  refine bodyPost_ret (results_cell_row rfl _ _ w.heap.size _ (evA { kind := 1, rep := x1, okind := 4, cart := x3, text := n4 } nilV) _ _ rfl (blk_setRow hb9 _) Try.underlying55 rfl (info_evA hok _)) rfl ?_
  exact ⟨_, rfl, Sees.nil _ _ _, fun k h => by simp [Value.ownBlock] at h, hWF.put hneb hner _, (((hOA.then hO6 (fun _ _ e => .inl e)).then hO9 (fun _ _ e => .inr e)).then (T := (· = w.heap.size)) (only_setRow (Only.refl _ _) _ _ (fun _ => rfl)) (fun _ _ e => .inr e)).mono (fun k hk h => h.elim id (fun e => by exfalso; omega))⟩
set_option maxRecDepth 100000 in
set_option maxHeartbeats 1600000 in
theorem do_clear_c (b rb : Nat) (a q c : ByteArray) (w : World) (h : WAt w b rb 0 [a, q, c]) (hk : opW q = 5) (ha : a.size ≤ 1000000000) (hc : c.size ≤ 1000000000) :
    Calls Try.prog 66 #[.pointer (some ⟨b, 0, none⟩)] w (ReadR (doM a q c []) b rb w) := by
  obtain ⟨hlt, hlr, hrne⟩ := h.lt
  have h0 : WAt (w.alloc (.cells zero25 55)) b rb 0 [a, q, c] := h.only ((Only.refl _ _).alloc _)
  have HB := Lib.hid (byte_c b rb 0 a [q, c] _ h0 ha)
  have HX := fun (W : World) (e : Int) (h : WAt W b rb e [q, c]) => Lib.hid (next_c b rb e q [c] W h)
  have HC := fun (W : World) (e : Int) (h : WAt W b rb e [c]) => Lib.hid (number_c b rb e c [] 65535 W h hc)
  have hb0 := Blk.new w zero25 55
  have hbc := parse_bd c.data.toList 65535 (by omega)
  rw [show parseM c.data.toList 0 65535 = numE 65535 c from rfl] at hbc
  have hD : doM a q c [] = ({ kind := 1, rep := (numE 255 a).1, okind := 5, cart := (numE 65535 c).1 }, keepE (numE 255 a).2 (numE 65535 c).2) := by
    unfold doM
    rw [hk]
    rfl
  rw [hD]
  obtain ⟨q1, q2, q3, q4, q5⟩ := ow_all q
  rw [hk] at q1 q2 q3 q4 q5
  replace q1 := q1.trans (show _ = false from rfl)
  replace q2 := q2.trans (show _ = false from rfl)
  replace q3 := q3.trans (show _ = false from rfl)
  replace q4 := q4.trans (show _ = false from rfl)
  replace q5 := q5.trans (show _ = true from rfl)
  rw [show numE 255 a = parseM a.data.toList 0 255 from rfl] at *
  rw [show numE 65535 c = parseM c.data.toList 0 65535 from rfl] at *
  obtain ⟨x1, e1, he1⟩ : ∃ x e, (x, e) = parseM a.data.toList 0 255 := ⟨_, _, rfl⟩
  obtain ⟨x3, e3, he3⟩ : ∃ x e, (x, e) = parseM c.data.toList 0 65535 := ⟨_, _, rfl⟩
  rw [← he1] at HB ⊢
  rw [← he3] at HC hbc ⊢
  have hw16 : IntKind.u16.wrap x3 = x3 := IntWalk.u16_in _ (by simp only at hbc; omega)
  clear hD he1 he3 h h0 hk hbc
  rw [zero25_eq] at hb0
  go_enter Try.func66, Try.ntmps66
  go_wp2_with fail
  refine HB.out.mono ?_
  rintro x w1 ⟨rfl, hW1, hO1⟩
  have z1 := hO1.size
  have z1' : w.heap.size + 1 ≤ w1.heap.size := by simpa using z1
  have hneb : w.heap.size ≠ b := by omega
  have hner : w.heap.size ≠ rb := by omega
  have hb1 := hO1.blk hb0 hneb
  have c0 := hb1.cell 0 _ rfl
  have f0 := hb1.free 0
  have c1 := hb1.cell 1 _ rfl
  have f1 := hb1.free 1
  go_wp2_with fail
  have hO2 : Only (· = w.heap.size) w1 ((w1.setCell ⟨w.heap.size, 0, none⟩ (.int .i64 1)).setCell ⟨w.heap.size, 1, none⟩ (.int .u8 x1)) := ((Only.refl (· = w.heap.size) w1).set1 0 _).set1 1 _
  have hb2 := (hb1.set 0 (.int .i64 1)).set 1 (.int .u8 x1)
  rw [set_kind, set_rep] at hb2
  clear c0 f0 c1 f1
  generalize hw2 : (w1.setCell ⟨w.heap.size, 0, none⟩ (.int .i64 1)).setCell ⟨w.heap.size, 1, none⟩ (.int .u8 x1) = w2 at *
  have hW2 := hW1.via hO2 hneb hner
  refine (HX _ _ hW2).out.mono ?_
  rintro x w3 ⟨rfl, hW3, hO3⟩
  have hb3 := own_row hb2 hO3 hneb
  go_wp2_with fail
  refine (HC _ _ hW3).out.mono ?_
  rintro x w4 ⟨rfl, hW4, hO4⟩
  have hb4 := own_row hb3 hO4 hneb
  have c6 := hb4.cell 6 _ rfl
  have f6 := hb4.free 6
  have hO5 : Only (· = w.heap.size) w4 (w4.setCell ⟨w.heap.size, 6, none⟩ (.int .u16 x3)) := (Only.refl (· = w.heap.size) w4).set1 6 _
  have hb5 := hb4.set 6 (.int .u16 x3)
  rw [set_cart] at hb5
  have hW5 := hW4.via hO5 hneb hner
  -- all that turned so far: the words, and the own row
  have hOA : Only (fun k => k = b ∨ k = w.heap.size) w (w4.setCell ⟨w.heap.size, 6, none⟩ (.int .u16 x3)) :=
    ((((((Only.refl _ w).alloc _).then hO1 (fun _ _ e => .inl e)).then hO2 (fun _ _ e => .inr e)).then hO3 (fun _ _ e => .inl e)).then hO4 (fun _ _ e => .inl e)).then hO5 (fun _ _ e => .inr e)
  have c5 : (w4.setCell ⟨w.heap.size, 6, none⟩ (.int .u16 x3)).cell? ⟨w.heap.size, 5, none⟩ = some (.int .i64 0) := hb5.cell 5 _ rfl
  have f5 := hb5.free 5
  have hb6 := hb5.set 5 (.int .i64 5)
  rw [set_okind] at hb6
  have hO6 : Only (· = w.heap.size) (w4.setCell ⟨w.heap.size, 6, none⟩ (.int .u16 x3)) ((w4.setCell ⟨w.heap.size, 6, none⟩ (.int .u16 x3)).setCell ⟨w.heap.size, 5, none⟩ (.int .i64 5)) := (Only.refl (· = w.heap.size) _).set1 5 _
  have hW6 := hW5.via hO6 hneb hner
  have hok : Ev.Ok { kind := 1, rep := x1, okind := 5, cart := x3 } := ⟨rfl, rfl⟩
  go_wp2_with (first
    | (refine wpList_load_row rfl 55 (.tmp 2) rfl w.heap.size rfl _ _ (0, 0) _ hb6 Try.underlying55 rfl (info_evA hok _) ?_)
    | (refine wpList_store_row rfl 55 (.tmp 2) (.tmp 71) rfl w.heap.size (evA { kind := 1, rep := x1, okind := 5, cart := x3 } nilV) rfl rfl _ _ hb6 (info_evA hok _) rfl (one_evA _ rfl) ?_))
  refine bodyPost_ret (results_cell_row rfl _ _ w.heap.size _ (evA { kind := 1, rep := x1, okind := 5, cart := x3 } nilV) _ _ rfl (blk_setRow hb6 _) Try.underlying55 rfl (info_evA hok _)) rfl ?_
  exact ⟨_, rfl, Sees.nil _ _ _, fun k h => by simp [Value.ownBlock] at h, hW6.put hneb hner _, ((hOA.then hO6 (fun _ _ e => .inr e)).then (T := (· = w.heap.size)) (only_setRow (Only.refl _ _) _ _ (fun _ => rfl)) (fun _ _ e => .inr e)).mono (fun k hk h => h.elim id (fun e => by exfalso; omega))⟩
end Go.Proofs.Ytlilhdkaaendlaa
