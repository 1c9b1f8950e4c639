/- The readers of an event's words. No statement is proved here. -/
import Derived.Test.YtlilhdkaaendlaaEv
namespace Go.Proofs.Ytlilhdkaaendlaa
open Go.RowKit

abbrev zero25 : Array Value := #[.int .i64 0, .int .u8 0, .int .u8 0, .int .i64 0, .int .i64 0, .int .i64 0, .int .u16 0, .int .u8 0, .int .u8 0, .int .u8 0, .int .u8 0, .int .u8 0, .int .u8 0, .int .u8 0, .int .u8 0, .int .i64 0, .int .u8 0, .int .u8 0, .int .u8 0, .int .u8 0, .int .u8 0, .int .u8 0, .int .u8 0, .int .u8 0, .slice none 0 0]
theorem zero25_eq : zero25 = evA {} (.slice none 0 0) := rfl
/-- What a reader hands back: the event, its bytes in memory of their own; the words are taken. -/
def ReadR (r : Ev × Int) (b rb : Nat) (w : World) (x : Ending) (w' : World) : Prop := ∃ dv, x = .returned (evV r.1 dv) ∧ Sees w' dv (bys r.1.data) ∧ (∀ k, dv.ownBlock = some k → w.heap.size ≤ k) ∧ WAt w' b rb r.2 [] ∧ Only (· = b) w w'
/-- The reader's own row, written whole, is what it hands back. -/
theorem keepE0 (f : Int) : keepE 0 f = f := rfl

set_option maxRecDepth 100000 in
set_option maxHeartbeats 800000 in
theorem gossip_c (b rb : Nat) (p q : ByteArray) (w : World) (h : WAt w b rb 0 [p, q]) (hp : p.size ≤ 1000000000) (hq : q.size ≤ 1000000000) :
    Calls Try.prog 67 #[.pointer (some ⟨b, 0, none⟩)] w (ReadR (gossipM p q) b rb w) := by
  obtain ⟨hlt, hlr, hrne⟩ := h.lt
  have h0 : WAt (w.alloc (.cells zero25 55)) b rb 0 [p, q] := h.only ((Only.refl _ _).alloc _)
  have HN := Lib.hid (byte_c b rb 0 p [q] _ h0 hp)
  have HM := fun (W : World) (h : WAt W b rb (numE 255 p).2 [q]) => Lib.hid (byte_c b rb _ q [] _ h hq)
  have hb0 := Blk.new w zero25 55
  unfold gossipM
  obtain ⟨x1, e1, he1⟩ : ∃ x e, (x, e) = numE 255 p := ⟨_, _, rfl⟩
  obtain ⟨x2, e2, he2⟩ : ∃ x e, (x, e) = numE 255 q := ⟨_, _, rfl⟩
  rw [← he1] at HN HM ⊢
  rw [← he2] at HM ⊢
  clear h h0 he1 he2
  go_enter Try.func67, Try.ntmps67
  go_wp2_with fail
  refine HN.out.mono ?_
  rintro x w1 ⟨rfl, hW, hO⟩
  go_wp2_with fail
  refine (HM _ hW).out.mono ?_
  rintro x w2 ⟨rfl, hW2, hO2⟩
  have hO3 := hO.trans hO2
  have hb1 := hO3.blk hb0 (by show ¬ w.heap.size = b; omega)
  rw [zero25_eq] at hb1
  go_wp2_with (refine wpList_store_row rfl 55 (.tmp 2) (.tmp 7) rfl w.heap.size (evA { kind := 2, rep := x1, dest := x2 } (.slice none 0 0)) rfl rfl _ _ hb1 (info_evA ⟨rfl, rfl⟩ _) (by rw [evA_size ⟨rfl, rfl⟩, evA_size ⟨rfl, rfl⟩]) (one_evA _ rfl) ?_)
  refine bodyPost_ret (results_cell_row rfl _ _ w.heap.size _ (evA { kind := 2, rep := x1, dest := x2 } (.slice none 0 0)) _ _ rfl (blk_setRow hb1 _) Try.underlying55 rfl (info_evA ⟨rfl, rfl⟩ _)) rfl ?_
  exact ⟨_, rfl, Sees.nil _ _ _, fun k h => by simp [Value.ownBlock] at h, hW2.put (by omega) (by omega) _, after hO3 _⟩

theorem idx_modes (p : ByteArray) : idx modeL p = if p.data.toList = [99, 101, 108, 108, 115] then 0 else if p.data.toList = [116, 97, 98, 108, 101] then 1 else if p.data.toList = [119, 104, 111, 108, 101] then 2 else -1 := by
  obtain ⟨⟨l⟩⟩ := p
  unfold idx Lib.idxOfS modeL
  simp only [Lib.idxFromS, ByteArray.mk.injEq, Array.mk.injEq]
  by_cases h1 : l = [99, 101, 108, 108, 115]
  · rw [if_pos h1.symm, if_pos h1]; rfl
  rw [if_neg (fun e => h1 e.symm), if_neg h1]
  by_cases h2 : l = [116, 97, 98, 108, 101]
  · rw [if_pos h2.symm, if_pos h2]; rfl
  rw [if_neg (fun e => h2 e.symm), if_neg h2]
  by_cases h3 : l = [119, 104, 111, 108, 101]
  · rw [if_pos h3.symm, if_pos h3]; rfl
  rw [if_neg (fun e => h3 e.symm), if_neg h3]
theorem modeN_bd (p : ByteArray) : -1 ≤ idx modeL p ∧ idx modeL p ≤ 2 := by
  rw [idx_modes]
  repeat' split
  all_goals omega
set_option maxRecDepth 100000 in
theorem modes_c (w : World) : Calls Try.prog 71 #[] w fun x w' => ∃ v, x = .returned v ∧ Sees w' v (txs modeL) ∧ (∀ k, v.ownBlock = some k → w.heap.size ≤ k) ∧ Only No w w' := by
  have hB := Blk.new w #[.string ⟨#[99, 101, 108, 108, 115]⟩, .string ⟨#[116, 97, 98, 108, 101]⟩, .string ⟨#[119, 104, 111, 108, 101]⟩] 9
  go_enter Try.func71, Try.ntmps71
  go_wp2_with fail
  go_ret
  refine ⟨_, rfl, ⟨⟨_, 3, rfl, by simp [txs, modeL], fun _ => ⟨_, 0, rfl, hB.lt, fun j u hu => hB.cell _ u (by simpa [txs, modeL] using hu)⟩⟩⟩, fun k h => ?_, (Only.refl _ _).alloc _⟩
  simp [Value.ownBlock] at h
  omega
set_option maxRecDepth 100000 in
set_option maxHeartbeats 800000 in
theorem begin_c (b rb : Nat) (p q m : ByteArray) (w : World) (h : WAt w b rb 0 [p, q, m]) (hp : p.size ≤ 1000000000) (hq : q.size ≤ 1000000000) :
    Calls Try.prog 69 #[.pointer (some ⟨b, 0, none⟩)] w (ReadR (beginM p q m) b rb w) := by
  obtain ⟨hlt, hlr, hrne⟩ := h.lt
  have h0 : WAt (w.alloc (.cells zero25 55)) b rb 0 [p, q, m] := h.only ((Only.refl _ _).alloc _)
  have HN := Lib.hid (byte_c b rb 0 p [q, m] _ h0 hp)
  have HM := fun (W : World) (h : WAt W b rb (numE 255 p).2 [q, m]) => Lib.hid (byte_c b rb _ q [m] _ h hq)
  have HC := fun (W : World) (e : Int) (v : Value) (h : WAt W b rb e [m]) (hv : Sees W v (txs modeL)) (hb : ∀ k, v.ownBlock = some k → k ≠ b) => Lib.hid (choice_c b rb e m [] v modeL W h hv hb (by decide))
  have HMO := fun W : World => Lib.hid (modes_c W)
  have hb0 := Blk.new w zero25 55
  have hmb := modeN_bd m
  unfold beginM modeN modeE
  obtain ⟨x1, e1, he1⟩ : ∃ x e, (x, e) = numE 255 p := ⟨_, _, rfl⟩
  obtain ⟨x2, e2, he2⟩ : ∃ x e, (x, e) = numE 255 q := ⟨_, _, rfl⟩
  obtain ⟨x3, hx3⟩ : ∃ x, x = idx modeL m := ⟨_, rfl⟩
  obtain ⟨e3, he3⟩ : ∃ x, x = idxErr modeL m := ⟨_, rfl⟩
  rw [← he1] at HN HM ⊢
  rw [← he2] at HM ⊢
  rw [← hx3] at HC hmb ⊢
  rw [← he3] at HC ⊢
  have hw3 : IntKind.i64.wrap (1 + x3) = 1 + x3 := IntWalk.i64_in _ (by omega)
  clear h h0 he1 he2 hx3 he3
  go_enter Try.func69, Try.ntmps69
  go_wp2_with fail
  refine HN.out.mono ?_
  rintro x w1 ⟨rfl, hW, hO⟩
  go_wp2_with fail
  refine (HM _ hW).out.mono ?_
  rintro x w2 ⟨rfl, hW2, hO2⟩
  go_wp2_with fail
  refine (HMO _).out.mono ?_
  rintro x w3 ⟨v, rfl, hv, hvf, hO3⟩
  have hz2 := (hO.trans hO2).size
  have hz2' : w.heap.size + 1 ≤ w2.heap.size := by simpa using hz2
  go_wp2_with fail
  refine (HC _ _ v (hW2.only hO3) hv (fun k hk e => by have := hvf k hk; omega)).out.mono ?_
  rintro x w4 ⟨rfl, hW4, hO4⟩
  have hO5 := (hO.trans hO2).trans (hO3.of_no.trans hO4)
  have hb1 := hO5.blk hb0 (by show ¬ w.heap.size = b; omega)
  rw [zero25_eq] at hb1
  go_wp2_with (refine wpList_store_row rfl 55 (.tmp 2) (.tmp 11) rfl w.heap.size (evA { kind := 3, rep := x1, dest := x2, n := 1 + x3 } (.slice none 0 0)) rfl rfl _ _ hb1 (info_evA ⟨rfl, rfl⟩ _) (by rw [evA_size ⟨rfl, rfl⟩, evA_size ⟨rfl, rfl⟩]) (one_evA _ rfl) ?_)
  refine bodyPost_ret (results_cell_row rfl _ _ w.heap.size _ (evA { kind := 3, rep := x1, dest := x2, n := 1 + x3 } (.slice none 0 0)) _ _ rfl (blk_setRow hb1 _) Try.underlying55 rfl (info_evA ⟨rfl, rfl⟩ _)) rfl ?_
  exact ⟨_, rfl, Sees.nil _ _ _, fun k h => by simp [Value.ownBlock] at h, hW4.put (by omega) (by omega) _, after hO5 _⟩
set_option maxRecDepth 100000 in
set_option maxHeartbeats 800000 in
theorem round_c (b rb : Nat) (p : ByteArray) (w : World) (h : WAt w b rb 0 [p]) (hp : p.size ≤ 1000000000) :
    Calls Try.prog 72 #[.pointer (some ⟨b, 0, none⟩)] w (ReadR (roundM p) b rb w) := by
  obtain ⟨hlt, hlr, hrne⟩ := h.lt
  have h0 : WAt (w.alloc (.cells zero25 55)) b rb 0 [p] := h.only ((Only.refl _ _).alloc _)
  have HN := Lib.hid (byte_c b rb 0 p [] _ h0 hp)
  have hb0 := Blk.new w zero25 55
  unfold roundM
  obtain ⟨x1, e1, he1⟩ : ∃ x e, (x, e) = numE 255 p := ⟨_, _, rfl⟩
  rw [← he1] at HN ⊢
  clear h h0 he1
  go_enter Try.func72, Try.ntmps72
  go_wp2_with fail
  refine HN.out.mono ?_
  rintro x w1 ⟨rfl, hW, hO⟩
  have hb1 := hO.blk hb0 (by show ¬ w.heap.size = b; omega)
  rw [zero25_eq] at hb1
  go_wp2_with (refine wpList_store_row rfl 55 (.tmp 2) (.tmp 5) rfl w.heap.size (evA { kind := 4, rep := x1 } (.slice none 0 0)) rfl rfl _ _ hb1 (info_evA ⟨rfl, rfl⟩ _) (by rw [evA_size ⟨rfl, rfl⟩, evA_size ⟨rfl, rfl⟩]) (one_evA _ rfl) ?_)
  refine bodyPost_ret (results_cell_row rfl _ _ w.heap.size _ (evA { kind := 4, rep := x1 } (.slice none 0 0)) _ _ rfl (blk_setRow hb1 _) Try.underlying55 rfl (info_evA ⟨rfl, rfl⟩ _)) rfl ?_
  exact ⟨_, rfl, Sees.nil _ _ _, fun k h => by simp [Value.ownBlock] at h, hW.put (by omega) (by omega) _, after hO _⟩
set_option maxRecDepth 100000 in
theorem data_c (b rb : Nat) (e : Int) (p : ByteArray) (r : List ByteArray) (w : World) (h : WAt w b rb e (p :: r)) (hs : p.size ≤ 900000000) :
    Calls Try.prog 75 #[.pointer (some ⟨b, 0, none⟩)] w fun x w' => ∃ v, x = .returned v ∧ Sees w' v (bys (unhexM p.data.toList).1) ∧ (∀ k, v.ownBlock = some k → w.heap.size ≤ k) ∧ WAt w' b rb (keepE e (unhexM p.data.toList).2) r ∧ Only (· = b) w w' := by
  obtain ⟨hlt, hlr, hrne⟩ := h.lt
  have HN := Lib.hid (next_c b rb e p r _ h)
  have HU := fun W : World => Lib.hid (unhex_c p W (by omega))
  obtain ⟨l, f, hlf⟩ : ∃ l f, (l, f) = unhexM p.data.toList := ⟨_, _, rfl⟩
  rw [← hlf] at HU ⊢
  clear hlf h
  go_enter Try.func75, Try.ntmps75
  go_wp2_with fail
  refine HN.out.mono ?_
  rintro x w1 ⟨rfl, hW, hO⟩
  have hz1 := hO.size
  go_wp2_with fail
  refine (HU _).out.mono ?_
  rintro x w2 ⟨v, rfl, hv, hvf, hO2⟩
  have HK := Lib.hid (keep_c b rb e f r _ (hW.only hO2))
  go_wp2_with fail
  refine HK.out.mono ?_
  rintro x w3 ⟨rfl, hW3, hO3⟩
  go_wp2_with fail
  go_ret
  exact ⟨_, rfl, hv.only hO3 (fun k hk e => by have := hvf k hk; omega), fun k hk => Nat.le_trans hz1 (hvf k hk), hW3, hO.trans (hO2.of_no.trans hO3)⟩
set_option maxRecDepth 100000 in
set_option maxHeartbeats 800000 in
theorem inject_c (b rb : Nat) (p q : ByteArray) (w : World) (h : WAt w b rb 0 [p, q]) (hp : p.size ≤ 1000000000) (hq : q.size ≤ 900000000) :
    Calls Try.prog 74 #[.pointer (some ⟨b, 0, none⟩)] w (ReadR (injectM p q) b rb w) := by
  obtain ⟨hlt, hlr, hrne⟩ := h.lt
  have h0 : WAt (w.alloc (.cells zero25 55)) b rb 0 [p, q] := h.only ((Only.refl _ _).alloc _)
  have HN := Lib.hid (byte_c b rb 0 p [q] _ h0 hp)
  have HM := fun (W : World) (h : WAt W b rb (numE 255 p).2 [q]) => Lib.hid (data_c b rb _ q [] _ h hq)
  have hb0 := Blk.new w zero25 55
  unfold injectM
  obtain ⟨x1, e1, he1⟩ : ∃ x e, (x, e) = numE 255 p := ⟨_, _, rfl⟩
  obtain ⟨x2, e2, he2⟩ : ∃ x e, (x, e) = unhexM q.data.toList := ⟨_, _, rfl⟩
  rw [← he1] at HN HM ⊢
  rw [← he2] at HM ⊢
  clear h h0 he1 he2
  go_enter Try.func74, Try.ntmps74
  go_wp2_with fail
  refine HN.out.mono ?_
  rintro x w1 ⟨rfl, hW, hO⟩
  have hz1 := hO.size
  have hz1' : w.heap.size + 1 ≤ w1.heap.size := by simpa using hz1
  go_wp2_with fail
  refine (HM _ hW).out.mono ?_
  rintro x w2 ⟨v, rfl, hv, hvf, hW2, hO2⟩
  have hO3 := hO.trans hO2
  have hb1 := hO3.blk hb0 (by show ¬ w.heap.size = b; omega)
  rw [zero25_eq] at hb1
  obtain ⟨va, vc, hvv, -⟩ := hv.form
  have hone : v.oneCell' = true := by rw [hvv]; rfl
  go_wp2_with (refine wpList_store_row rfl 55 (.tmp 2) (.tmp 7) rfl w.heap.size (evA { kind := 9, dest := x1, data := x2 } v) rfl (by rw [hvv]; rfl) _ _ hb1 (info_evA ⟨rfl, rfl⟩ _) (by rw [evA_size ⟨rfl, rfl⟩, evA_size ⟨rfl, rfl⟩]) (one_evA _ hone) ?_)
  refine bodyPost_ret (results_cell_row rfl _ _ w.heap.size _ (evA { kind := 9, dest := x1, data := x2 } v) _ _ rfl (blk_setRow hb1 _) Try.underlying55 rfl (info_evA ⟨rfl, rfl⟩ _)) rfl ?_
  refine ⟨_, rfl, hv.only (only_setRow (S := (· = w.heap.size)) (Only.refl _ _) _ _ (fun _ => rfl)) (fun k hk e => by have := hvf k hk; omega), fun k hk => by have := hvf k hk; omega, hW2.put (by omega) (by omega) _, after hO3 _⟩
set_option maxRecDepth 100000 in
set_option maxHeartbeats 800000 in
theorem spoil_c (b rb : Nat) (p q d : ByteArray) (w : World) (h : WAt w b rb 0 [p, q, d]) (hp : p.size ≤ 1000000000) (hq : q.size ≤ 1000000000) (hd : d.size ≤ 1000000000) :
    Calls Try.prog 73 #[.pointer (some ⟨b, 0, none⟩)] w (ReadR (spoilM p q d) b rb w) := by
  obtain ⟨hlt, hlr, hrne⟩ := h.lt
  have h0 : WAt (w.alloc (.cells zero25 55)) b rb 0 [p, q, d] := h.only ((Only.refl _ _).alloc _)
  have HN := Lib.hid (at_c b rb 0 p [q, d] _ h0 hp)
  have HM := fun (W : World) (h : WAt W b rb (numE 2147483647 p).2 [q, d]) => Lib.hid (at_c b rb _ q [d] _ h hq)
  have HD := fun (W : World) (e : Int) (h : WAt W b rb e [d]) => Lib.hid (byte_c b rb e d [] _ h hd)
  have hb0 := Blk.new w zero25 55
  have hbd := parse_bd d.data.toList 255 (by omega)
  unfold spoilM
  obtain ⟨x1, e1, he1⟩ : ∃ x e, (x, e) = numE 2147483647 p := ⟨_, _, rfl⟩
  obtain ⟨x2, e2, he2⟩ : ∃ x e, (x, e) = numE 2147483647 q := ⟨_, _, rfl⟩
  obtain ⟨x3, e3, he3⟩ : ∃ x e, (x, e) = numE 255 d := ⟨_, _, rfl⟩
  rw [← he1] at HN HM ⊢
  rw [← he2] at HM ⊢
  rw [show parseM d.data.toList 0 255 = numE 255 d from rfl, ← he3] at hbd
  rw [← he3] at HD ⊢
  clear h h0 he1 he2 he3
  have hx3 : Value.int .u8 x3 = .int .u8 ((UInt8.ofNat x3.toNat).toNat : Int) := by
    rw [UInt8.toNat_ofNat', Nat.mod_eq_of_lt (by omega)]
    exact congrArg (Value.int .u8) (by omega)
  have HX3 := Lib.hid hx3
  clear hx3
  go_enter Try.func73, Try.ntmps73
  go_wp2_with fail
  refine HN.out.mono ?_
  rintro x w1 ⟨rfl, hW, hO⟩
  go_wp2_with fail
  refine (HM _ hW).out.mono ?_
  rintro x w2 ⟨rfl, hW2, hO2⟩
  go_wp2_with fail
  refine (HD _ _ hW2).out.mono ?_
  rintro x w3 ⟨rfl, hW3, hO3⟩
  have hO4 := (hO.trans hO2).trans hO3
  have hz4 := hO4.size
  have hz4' : w.heap.size + 1 ≤ w3.heap.size := by simpa using hz4
  have hO5 : Only (· = b) (w.alloc (.cells zero25 55)) (w3.alloc (.cells #[.int .u8 x3] 5)) := hO4.alloc _
  have hb1 := hO5.blk hb0 (by show ¬ w.heap.size = b; omega)
  rw [zero25_eq] at hb1
  have hB := Blk.new w3 #[.int .u8 x3] 5
  go_wp2_with (refine wpList_store_row rfl 55 (.tmp 2) (.tmp 10) rfl w.heap.size (evA { kind := 8, at_ := x1, n := x2, data := [UInt8.ofNat x3.toNat] } (.slice (some ⟨w3.heap.size, 0, none⟩) 1 1)) rfl rfl _ _ hb1 (info_evA ⟨rfl, rfl⟩ _) (by rw [evA_size ⟨rfl, rfl⟩, evA_size ⟨rfl, rfl⟩]) (one_evA _ rfl) ?_)
  refine bodyPost_ret (results_cell_row rfl _ _ w.heap.size _ (evA { kind := 8, at_ := x1, n := x2, data := [UInt8.ofNat x3.toNat] } (.slice (some ⟨w3.heap.size, 0, none⟩) 1 1)) _ _ rfl (blk_setRow hb1 _) Try.underlying55 rfl (info_evA ⟨rfl, rfl⟩ _)) rfl ?_
  refine ⟨_, rfl, ?_, fun k h => by simp [Value.ownBlock] at h; omega, (hW3.only ((Only.refl _ _).alloc _)).put (by omega) (by omega) _, after hO5 _⟩
  have hB2 : Blk ((w3.alloc (.cells #[.int .u8 x3] 5)).setRow w.heap.size (evA { kind := 8, at_ := x1, n := x2, data := [UInt8.ofNat x3.toNat] } (.slice (some ⟨w3.heap.size, 0, none⟩) 1 1))) w3.heap.size #[.int .u8 x3] 5 :=
    (only_setRow (S := (· = w.heap.size)) (Only.refl _ _) _ _ (fun _ => rfl)).blk hB (by show ¬ w3.heap.size = w.heap.size; omega)
  refine ⟨⟨_, 1, rfl, by simp [bys], fun _ => ⟨_, 0, rfl, hB2.lt, fun j u hu => hB2.cell _ u ?_⟩⟩⟩
  rw [Nat.zero_add, HX3.out]
  simpa [bys] using hu
set_option maxRecDepth 100000 in
set_option maxHeartbeats 800000 in
theorem flight_c (b rb cb : Nat) (k : Int) (p : ByteArray) (w : World) (hk : w.cell? ⟨cb, 0, none⟩ = some (.int .i64 k)) (hcb : cb ≠ b) (h : WAt w b rb 0 [p]) (hp : p.size ≤ 1000000000) :
    Calls Try.prog 64 #[.pointer (some ⟨b, 0, none⟩), .pointer (some ⟨cb, 0, none⟩)] w (ReadR (flightM k p) b rb w) := by
  obtain ⟨hlt, hlr, hrne⟩ := h.lt
  have hlc : cb < w.heap.size := block_lt_of_cell hk
  have h0 : WAt (w.alloc (.cells zero25 55)) b rb 0 [p] := h.only ((Only.refl _ _).alloc _)
  have HN := Lib.hid (fun (W : World) (h : WAt W b rb 0 [p]) => at_c b rb 0 p [] W h hp)
  have hb0 := Blk.new w zero25 55
  unfold flightM
  obtain ⟨x1, e1, he1⟩ : ∃ x e, (x, e) = numE 2147483647 p := ⟨_, _, rfl⟩
  rw [← he1] at HN ⊢
  clear he1 h
  have hk0 : (w.alloc (.cells zero25 55)).cell? ⟨cb, 0, none⟩ = some (.int .i64 k) := (((Only.refl No w).alloc _).cell (p := ⟨cb, 0, none⟩) hlc id).trans hk
  have HK := Lib.hid (fun (W : World) (h : Only (· = b) (w.alloc (.cells zero25 55)) W) => (h.cell (p := ⟨cb, 0, none⟩) (by show cb < (w.alloc (.cells zero25 55)).heap.size; simp; omega) hcb).trans hk0)
  clear hk hk0
  go_enter Try.func64, Try.ntmps64
  go_wp2_with fail
  refine wp_region_held_drew (S := fun w' => w'.cell? ⟨cb, 0, none⟩ = some (.int .i64 k)) (by kernel_rfl) (HK.out _ (Only.refl _ _).drew) (fun hHeld => ?_)
  refine wpAnyH_take (i := 0) (v := .int .i64 k) rfl (by kernel_rfl) (by kernel_rfl) (by kernel_rfl) (fun _ _ _ h => h) (Or.inl ⟨by rfl, ?_⟩) hHeld ?_
  · intro W hSw
    go_simp
  refine wpAnyH_take (i := 1) (v := .pointer (some ⟨b, 0, none⟩)) rfl (by kernel_rfl) (by kernel_rfl) (by kernel_rfl) (fun _ _ _ h => h) (Or.inl ⟨by rfl, ?_⟩) hHeld ?_
  · intro W hSw
    go_simp
  refine wpAnyH_ready (rs := [2]) (by kernel_rfl) (by simp) ?_
  refine AllReadyH.cons rfl (fun K hK => ?_) AllReadyH.nil
  go_simp
  refine (HN.out _ (h0.only (Only.refl _ _).drew)).mono ?_
  rintro x w1 ⟨rfl, hW, hO⟩
  have hOw := hO.of_drew
  have hk1 := HK.out w1 hOw
  have hb1 := hOw.blk hb0 (by show ¬ w.heap.size = b; omega)
  rw [zero25_eq] at hb1
  have hz1 := hOw.size
  have hz1' : w.heap.size + 1 ≤ w1.heap.size := by simpa using hz1
  refine hK.out _ _ hk1 (fun hHeld => ?_)
  clear hK K
  refine wpAnyH_take (i := 3) (v := evV { kind := k, at_ := x1 } (.slice none 0 0)) rfl (by kernel_rfl) (by kernel_rfl) (by kernel_rfl) (fun _ _ _ h => h) (Or.inl ⟨by rfl, ?_⟩) hHeld ?_
  · intro W hSw
    go_simp
    rfl
  refine wpAnyH_ready (rs := [4]) (by kernel_rfl) (by simp) ?_
  refine AllReadyH.cons rfl (fun K hK => ?_) AllReadyH.nil
  rw [if_pos (by rfl)]
  refine wp_store_row 55 (.tmp 3) (.tmp 7) rfl w.heap.size (evA { kind := k, at_ := x1 } (.slice none 0 0)) rfl rfl _ _ hb1 (info_evA ⟨rfl, rfl⟩ _) (by rw [evA_size ⟨rfl, rfl⟩, evA_size ⟨rfl, rfl⟩]) (one_evA _ rfl) ?_
  refine hK.out _ _ (((only_setRow (S := (· = w.heap.size)) (Only.refl _ w1) w.heap.size _ (fun _ => rfl)).cell (p := ⟨cb, 0, none⟩) (by show cb < w1.heap.size; omega) (by show ¬ cb = w.heap.size; omega)).trans hk1) (fun _ => ?_)
  refine wpAnyH_done (by kernel_rfl) ?_ _
  go_wp2_with fail
  refine bodyPost_ret (results_cell_row rfl _ _ w.heap.size _ (evA { kind := k, at_ := x1 } (.slice none 0 0)) _ _ rfl (blk_setRow hb1 _) Try.underlying55 rfl (info_evA ⟨rfl, rfl⟩ _)) rfl ?_
  exact ⟨_, rfl, Sees.nil _ _ _, fun k h => by simp [Value.ownBlock] at h, hW.put (by omega) (by omega) _, after hOw _⟩
end Go.Proofs.Ytlilhdkaaendlaa
