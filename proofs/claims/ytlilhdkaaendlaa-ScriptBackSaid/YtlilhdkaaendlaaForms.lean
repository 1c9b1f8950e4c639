/- What reader a line's words have (printed by wip/tools/forms.py). No statement is proved here. -/
import Derived.Test.YtlilhdkaaendlaaDoing
import Derived.Laws.EntriesVeiled
namespace Go.Proofs.Ytlilhdkaaendlaa
open Go.RowKit

/-- A value that reads the words behind the first one, as rdM says. -/
def Reader (w0 : World) (fv : Value) (p : ByteArray) (r : List ByteArray) : Prop := ∃ (f : FuncId) (caps : Array Value), fv = .func (.func f) #[] caps ∧ (∀ (args : Array Value) (W : World), (callFunc f args).run Try.prog W = .ok (.enter f args) W) ∧
  ∀ (w : World) (b rb : Nat), Only No w0 w → w0.heap.size ≤ b → (∀ x ∈ r, x.size ≤ 900000000) → WAt w b rb 0 r → Calls Try.prog f (#[.pointer (some ⟨b, 0, none⟩)] ++ caps) w (ReadR (rdM (p :: r)) b rb w)
/-- The form of a line's words: how many they must be, and who reads them. -/
def FormR (p : ByteArray) (r : List ByteArray) (w : World) (x : Ending) (w' : World) : Prop := ∃ fv, x = .returned (.tuple #[.agg #[.int .i64 (many (p :: r) : Nat), fv], .bool (decide (many (p :: r) ≠ 0))]) ∧ fv.oneCell' = true ∧ Only No w w' ∧ (many (p :: r) = r.length + 1 → Reader w' fv p r)
theorem one_len {r : List ByteArray} (h : r.length = 1) : ∃ a, r = [a] := by
  match r, h with
  | [a], _ => exact ⟨a, rfl⟩
theorem two_len {r : List ByteArray} (h : r.length = 2) : ∃ a b, r = [a, b] := by
  match r, h with
  | [a, b], _ => exact ⟨a, b, rfl⟩
theorem three_len {r : List ByteArray} (h : r.length = 3) : ∃ a b c, r = [a, b, c] := by
  match r, h with
  | [a, b, c], _ => exact ⟨a, b, c, rfl⟩
theorem info_form : (Try.prog.info? 93).map (·.size) = some 2 := by kernel_rfl
set_option maxRecDepth 100000 in
theorem formOf_c (k : Int) (w : World) : Calls Try.prog 63 #[.int .i64 k] w fun x w' => ∃ cb, x = .returned (.agg #[.int .i64 2, .func (.func 64) #[] #[.pointer (some ⟨cb, 0, none⟩)]]) ∧ w'.cell? ⟨cb, 0, none⟩ = some (.int .i64 k) ∧ cb < w'.heap.size ∧ Only No w w' := by
  go_enter Try.func63, Try.ntmps63
  go_wp2_with fail
  have hB := Blk.new (w.alloc (.cells #[.int .i64 k] 3)) #[.int .i64 2, .func (.func 64) #[] #[.pointer (some ⟨w.heap.size, 0, none⟩)]] 93
  have hs1 : (w.alloc (.cells #[.int .i64 k] 3)).heap.size = w.heap.size + 1 := by simp
  rw [hs1] at hB
  refine bodyPost_ret (results_cell_row rfl _ _ (w.heap.size + 1) _ _ _ _ rfl hB Try.underlying93 rfl info_form) rfl ?_
  refine ⟨w.heap.size, rfl, ((Blk.new w #[.int .i64 k] 3).alloc _).cell 0 _ rfl, by simp; omega, ((Only.refl _ _).alloc _).alloc _⟩
set_option maxRecDepth 100000 in
set_option maxHeartbeats 800000 in
theorem forms2_c (v : Value) (p : ByteArray) (r : List ByteArray) (hk : kindW p = 2) (w : World) (hv : Sees w v (txs (p :: r))) : Calls Try.prog 35 #[v] w (FormR p r w) := by
  obtain ⟨a0, cap, rfl, hcap, hf⟩ := hv.form
  obtain ⟨rb, o, rfl, hrb, hcell⟩ := hf (by simp [txs])
  have hl : (txs (p :: r)).length = r.length + 1 := by simp [txs]
  rw [hl]
  have g0 := hcell 0 (.string p) (by simp [txs])
  rw [Nat.add_zero] at g0
  have hM : many (p :: r) = 3 := by simp only [many, hk]
  obtain ⟨q1, q2, q3, q4, q5, q6, q7, q8, q9⟩ := kw_all p
  rw [hk] at q1 q2 q3 q4 q5 q6 q7 q8 q9
  replace q1 := q1.trans (show _ = false from rfl)
  replace q2 := q2.trans (show _ = true from rfl)
  replace q3 := q3.trans (show _ = false from rfl)
  replace q4 := q4.trans (show _ = false from rfl)
  replace q5 := q5.trans (show _ = false from rfl)
  replace q6 := q6.trans (show _ = false from rfl)
  replace q7 := q7.trans (show _ = false from rfl)
  replace q8 := q8.trans (show _ = false from rfl)
  replace q9 := q9.trans (show _ = false from rfl)
  unfold FormR
  rw [hM]
  clear hcell hf hv hl hM
  go_enter Try.func35, Try.ntmps35
  go_wp2_with fail
  have hB := Blk.new w #[.int .i64 3, .func (.func 67) #[] #[]] 93
  refine bodyPost_ret (results_row_tmp rfl _ _ w.heap.size _ _ _ _ rfl hB Try.underlying93 rfl info_form) rfl ?_
  refine ⟨_, rfl, rfl, (Only.refl _ _).alloc _, fun hlen => ⟨67, #[], rfl, fun args W => by kernel_rfl, fun W b0 rb0 hO hle hx hw => ?_⟩⟩
  obtain ⟨a, b, rfl⟩ := two_len (show r.length = _ by omega)
  have hR : rdM (p :: [a, b]) = gossipM a b := by
    simp only [rdM, hk]
  rw [hR]
  exact gossip_c b0 rb0 a b W hw (by have := hx a (by simp); omega) (by have := hx b (by simp); omega)
set_option maxRecDepth 100000 in
set_option maxHeartbeats 800000 in
theorem forms3_c (v : Value) (p : ByteArray) (r : List ByteArray) (hk : kindW p = 3) (w : World) (hv : Sees w v (txs (p :: r))) : Calls Try.prog 35 #[v] w (FormR p r w) := by
  obtain ⟨a0, cap, rfl, hcap, hf⟩ := hv.form
  obtain ⟨rb, o, rfl, hrb, hcell⟩ := hf (by simp [txs])
  have hl : (txs (p :: r)).length = r.length + 1 := by simp [txs]
  rw [hl]
  have g0 := hcell 0 (.string p) (by simp [txs])
  rw [Nat.add_zero] at g0
  have hM : many (p :: r) = 4 := by simp only [many, hk]
  obtain ⟨q1, q2, q3, q4, q5, q6, q7, q8, q9⟩ := kw_all p
  rw [hk] at q1 q2 q3 q4 q5 q6 q7 q8 q9
  replace q1 := q1.trans (show _ = false from rfl)
  replace q2 := q2.trans (show _ = false from rfl)
  replace q3 := q3.trans (show _ = true from rfl)
  replace q4 := q4.trans (show _ = false from rfl)
  replace q5 := q5.trans (show _ = false from rfl)
  replace q6 := q6.trans (show _ = false from rfl)
  replace q7 := q7.trans (show _ = false from rfl)
  replace q8 := q8.trans (show _ = false from rfl)
  replace q9 := q9.trans (show _ = false from rfl)
  unfold FormR
  rw [hM]
  clear hcell hf hv hl hM
  go_enter Try.func35, Try.ntmps35
  go_wp2_with fail
  have hB := Blk.new w #[.int .i64 4, .func (.func 69) #[] #[]] 93
  refine bodyPost_ret (results_row_tmp rfl _ _ w.heap.size _ _ _ _ rfl hB Try.underlying93 rfl info_form) rfl ?_
  refine ⟨_, rfl, rfl, (Only.refl _ _).alloc _, fun hlen => ⟨69, #[], rfl, fun args W => by kernel_rfl, fun W b0 rb0 hO hle hx hw => ?_⟩⟩
  obtain ⟨a, b, c, rfl⟩ := three_len (show r.length = _ by omega)
  have hR : rdM (p :: [a, b, c]) = beginM a b c := by
    simp only [rdM, hk]
  rw [hR]
  exact begin_c b0 rb0 a b c W hw (by have := hx a (by simp); omega) (by have := hx b (by simp); omega)
set_option maxRecDepth 100000 in
set_option maxHeartbeats 800000 in
theorem forms4_c (v : Value) (p : ByteArray) (r : List ByteArray) (hk : kindW p = 4) (w : World) (hv : Sees w v (txs (p :: r))) : Calls Try.prog 35 #[v] w (FormR p r w) := by
  obtain ⟨a0, cap, rfl, hcap, hf⟩ := hv.form
  obtain ⟨rb, o, rfl, hrb, hcell⟩ := hf (by simp [txs])
  have hl : (txs (p :: r)).length = r.length + 1 := by simp [txs]
  rw [hl]
  have g0 := hcell 0 (.string p) (by simp [txs])
  rw [Nat.add_zero] at g0
  have hM : many (p :: r) = 2 := by simp only [many, hk]
  obtain ⟨q1, q2, q3, q4, q5, q6, q7, q8, q9⟩ := kw_all p
  rw [hk] at q1 q2 q3 q4 q5 q6 q7 q8 q9
  replace q1 := q1.trans (show _ = false from rfl)
  replace q2 := q2.trans (show _ = false from rfl)
  replace q3 := q3.trans (show _ = false from rfl)
  replace q4 := q4.trans (show _ = true from rfl)
  replace q5 := q5.trans (show _ = false from rfl)
  replace q6 := q6.trans (show _ = false from rfl)
  replace q7 := q7.trans (show _ = false from rfl)
  replace q8 := q8.trans (show _ = false from rfl)
  replace q9 := q9.trans (show _ = false from rfl)
  unfold FormR
  rw [hM]
  clear hcell hf hv hl hM
  go_enter Try.func35, Try.ntmps35
  go_wp2_with fail
  have hB := Blk.new w #[.int .i64 2, .func (.func 72) #[] #[]] 93
  refine bodyPost_ret (results_row_tmp rfl _ _ w.heap.size _ _ _ _ rfl hB Try.underlying93 rfl info_form) rfl ?_
  refine ⟨_, rfl, rfl, (Only.refl _ _).alloc _, fun hlen => ⟨72, #[], rfl, fun args W => by kernel_rfl, fun W b0 rb0 hO hle hx hw => ?_⟩⟩
  obtain ⟨a, rfl⟩ := one_len (show r.length = _ by omega)
  have hR : rdM (p :: [a]) = roundM a := by
    simp only [rdM, hk]
  rw [hR]
  exact round_c b0 rb0 a W hw (by have := hx a (by simp); omega)
set_option maxRecDepth 100000 in
set_option maxHeartbeats 800000 in
theorem forms5_c (v : Value) (p : ByteArray) (r : List ByteArray) (hk : kindW p = 5) (w : World) (hv : Sees w v (txs (p :: r))) : Calls Try.prog 35 #[v] w (FormR p r w) := by
  obtain ⟨a0, cap, rfl, hcap, hf⟩ := hv.form
  obtain ⟨rb, o, rfl, hrb, hcell⟩ := hf (by simp [txs])
  have hl : (txs (p :: r)).length = r.length + 1 := by simp [txs]
  rw [hl]
  have g0 := hcell 0 (.string p) (by simp [txs])
  rw [Nat.add_zero] at g0
  have hM : many (p :: r) = 2 := by simp only [many, hk]
  obtain ⟨q1, q2, q3, q4, q5, q6, q7, q8, q9⟩ := kw_all p
  rw [hk] at q1 q2 q3 q4 q5 q6 q7 q8 q9
  replace q1 := q1.trans (show _ = false from rfl)
  replace q2 := q2.trans (show _ = false from rfl)
  replace q3 := q3.trans (show _ = false from rfl)
  replace q4 := q4.trans (show _ = false from rfl)
  replace q5 := q5.trans (show _ = true from rfl)
  replace q6 := q6.trans (show _ = false from rfl)
  replace q7 := q7.trans (show _ = false from rfl)
  replace q8 := q8.trans (show _ = false from rfl)
  replace q9 := q9.trans (show _ = false from rfl)
  unfold FormR
  rw [hM]
  clear hcell hf hv hl hM
  have HF := fun W : World => Lib.hid (formOf_c 5 W)
  go_enter Try.func35, Try.ntmps35
  go_wp2_with fail
  refine (HF _).out.mono ?_
  rintro x w1 ⟨cb, rfl, hcb, hcl, hO⟩
  have hb1 : Blk w1 w.heap.size #[.int .i64 0, .nilFunc] 93 := hO.blk (Blk.new _ _ _) (fun h => h)
  have hz := hO.size
  have hz' : w.heap.size + 1 ≤ w1.heap.size := by simpa using hz
  go_wp2_with (refine wpList_store_row rfl 93 (.tmp 2) (.tmp 45) rfl w.heap.size #[.int .i64 2, .func (.func 64) #[] #[.pointer (some ⟨cb, 0, none⟩)]] rfl rfl _ _ hb1 info_form rfl (by simp [Value.oneCell']) ?_)
  refine bodyPost_ret (results_row_tmp rfl _ _ w.heap.size _ #[.int .i64 2, .func (.func 64) #[] #[.pointer (some ⟨cb, 0, none⟩)]] _ _ rfl (blk_setRow hb1 _) Try.underlying93 rfl info_form) rfl ?_
  have hOF : Only No w (w1.setRow w.heap.size #[.int .i64 2, .func (.func 64) #[] #[.pointer (some ⟨cb, 0, none⟩)]]) := only_setRow (((Only.refl _ _).alloc _).trans hO) _ _ (fun hk => absurd hk (Nat.lt_irrefl _))
  refine ⟨_, rfl, rfl, hOF, fun hlen => ⟨64, #[.pointer (some ⟨cb, 0, none⟩)], rfl, fun args W => by kernel_rfl, fun W b0 rb0 hO2 hle hx hw => ?_⟩⟩
  obtain ⟨a, rfl⟩ := one_len (show r.length = _ by omega)
  have hR : rdM (p :: [a]) = flightM 5 a := by
    simp only [rdM, hk]
  rw [hR]
  have hszs : (w1.setRow w.heap.size #[.int .i64 2, .func (.func 64) #[] #[.pointer (some ⟨cb, 0, none⟩)]]).heap.size = w1.heap.size := by simp
  have hcc : (w1.setRow w.heap.size #[.int .i64 2, .func (.func 64) #[] #[.pointer (some ⟨cb, 0, none⟩)]]).cell? ⟨cb, 0, none⟩ = some (.int .i64 5) := by
    by_cases he : cb = w.heap.size
    · exfalso
      have := hb1.cell 0 _ rfl
      rw [he, this] at hcb
      cases hcb
    · exact ((only_setRow (S := (· = w.heap.size)) (Only.refl _ w1) w.heap.size _ (fun _ => rfl)).cell (p := ⟨cb, 0, none⟩) hcl he).trans hcb
  refine flight_c b0 rb0 cb 5 a W ((hO2.cell (p := ⟨cb, 0, none⟩) (by rw [hszs]; exact hcl) id).trans hcc) (by rw [hszs] at hle; omega) hw (by have := hx a (by simp); omega)
set_option maxRecDepth 100000 in
set_option maxHeartbeats 800000 in
theorem forms6_c (v : Value) (p : ByteArray) (r : List ByteArray) (hk : kindW p = 6) (w : World) (hv : Sees w v (txs (p :: r))) : Calls Try.prog 35 #[v] w (FormR p r w) := by
  obtain ⟨a0, cap, rfl, hcap, hf⟩ := hv.form
  obtain ⟨rb, o, rfl, hrb, hcell⟩ := hf (by simp [txs])
  have hl : (txs (p :: r)).length = r.length + 1 := by simp [txs]
  rw [hl]
  have g0 := hcell 0 (.string p) (by simp [txs])
  rw [Nat.add_zero] at g0
  have hM : many (p :: r) = 2 := by simp only [many, hk]
  obtain ⟨q1, q2, q3, q4, q5, q6, q7, q8, q9⟩ := kw_all p
  rw [hk] at q1 q2 q3 q4 q5 q6 q7 q8 q9
  replace q1 := q1.trans (show _ = false from rfl)
  replace q2 := q2.trans (show _ = false from rfl)
  replace q3 := q3.trans (show _ = false from rfl)
  replace q4 := q4.trans (show _ = false from rfl)
  replace q5 := q5.trans (show _ = false from rfl)
  replace q6 := q6.trans (show _ = true from rfl)
  replace q7 := q7.trans (show _ = false from rfl)
  replace q8 := q8.trans (show _ = false from rfl)
  replace q9 := q9.trans (show _ = false from rfl)
  unfold FormR
  rw [hM]
  clear hcell hf hv hl hM
  have HF := fun W : World => Lib.hid (formOf_c 6 W)
  go_enter Try.func35, Try.ntmps35
  go_wp2_with fail
  refine (HF _).out.mono ?_
  rintro x w1 ⟨cb, rfl, hcb, hcl, hO⟩
  have hb1 : Blk w1 w.heap.size #[.int .i64 0, .nilFunc] 93 := hO.blk (Blk.new _ _ _) (fun h => h)
  have hz := hO.size
  have hz' : w.heap.size + 1 ≤ w1.heap.size := by simpa using hz
  go_wp2_with (refine wpList_store_row rfl 93 (.tmp 2) (.tmp 49) rfl w.heap.size #[.int .i64 2, .func (.func 64) #[] #[.pointer (some ⟨cb, 0, none⟩)]] rfl rfl _ _ hb1 info_form rfl (by simp [Value.oneCell']) ?_)
  refine bodyPost_ret (results_row_tmp rfl _ _ w.heap.size _ #[.int .i64 2, .func (.func 64) #[] #[.pointer (some ⟨cb, 0, none⟩)]] _ _ rfl (blk_setRow hb1 _) Try.underlying93 rfl info_form) rfl ?_
  have hOF : Only No w (w1.setRow w.heap.size #[.int .i64 2, .func (.func 64) #[] #[.pointer (some ⟨cb, 0, none⟩)]]) := only_setRow (((Only.refl _ _).alloc _).trans hO) _ _ (fun hk => absurd hk (Nat.lt_irrefl _))
  refine ⟨_, rfl, rfl, hOF, fun hlen => ⟨64, #[.pointer (some ⟨cb, 0, none⟩)], rfl, fun args W => by kernel_rfl, fun W b0 rb0 hO2 hle hx hw => ?_⟩⟩
  obtain ⟨a, rfl⟩ := one_len (show r.length = _ by omega)
  have hR : rdM (p :: [a]) = flightM 6 a := by
    simp only [rdM, hk]
  rw [hR]
  have hszs : (w1.setRow w.heap.size #[.int .i64 2, .func (.func 64) #[] #[.pointer (some ⟨cb, 0, none⟩)]]).heap.size = w1.heap.size := by simp
  have hcc : (w1.setRow w.heap.size #[.int .i64 2, .func (.func 64) #[] #[.pointer (some ⟨cb, 0, none⟩)]]).cell? ⟨cb, 0, none⟩ = some (.int .i64 6) := by
    by_cases he : cb = w.heap.size
    · exfalso
      have := hb1.cell 0 _ rfl
      rw [he, this] at hcb
      cases hcb
    · exact ((only_setRow (S := (· = w.heap.size)) (Only.refl _ w1) w.heap.size _ (fun _ => rfl)).cell (p := ⟨cb, 0, none⟩) hcl he).trans hcb
  refine flight_c b0 rb0 cb 6 a W ((hO2.cell (p := ⟨cb, 0, none⟩) (by rw [hszs]; exact hcl) id).trans hcc) (by rw [hszs] at hle; omega) hw (by have := hx a (by simp); omega)
set_option maxRecDepth 100000 in
set_option maxHeartbeats 800000 in
theorem forms7_c (v : Value) (p : ByteArray) (r : List ByteArray) (hk : kindW p = 7) (w : World) (hv : Sees w v (txs (p :: r))) : Calls Try.prog 35 #[v] w (FormR p r w) := by
  obtain ⟨a0, cap, rfl, hcap, hf⟩ := hv.form
  obtain ⟨rb, o, rfl, hrb, hcell⟩ := hf (by simp [txs])
  have hl : (txs (p :: r)).length = r.length + 1 := by simp [txs]
  rw [hl]
  have g0 := hcell 0 (.string p) (by simp [txs])
  rw [Nat.add_zero] at g0
  have hM : many (p :: r) = 2 := by simp only [many, hk]
  obtain ⟨q1, q2, q3, q4, q5, q6, q7, q8, q9⟩ := kw_all p
  rw [hk] at q1 q2 q3 q4 q5 q6 q7 q8 q9
  replace q1 := q1.trans (show _ = false from rfl)
  replace q2 := q2.trans (show _ = false from rfl)
  replace q3 := q3.trans (show _ = false from rfl)
  replace q4 := q4.trans (show _ = false from rfl)
  replace q5 := q5.trans (show _ = false from rfl)
  replace q6 := q6.trans (show _ = false from rfl)
  replace q7 := q7.trans (show _ = true from rfl)
  replace q8 := q8.trans (show _ = false from rfl)
  replace q9 := q9.trans (show _ = false from rfl)
  unfold FormR
  rw [hM]
  clear hcell hf hv hl hM
  have HF := fun W : World => Lib.hid (formOf_c 7 W)
  go_enter Try.func35, Try.ntmps35
  go_wp2_with fail
  refine (HF _).out.mono ?_
  rintro x w1 ⟨cb, rfl, hcb, hcl, hO⟩
  have hb1 : Blk w1 w.heap.size #[.int .i64 0, .nilFunc] 93 := hO.blk (Blk.new _ _ _) (fun h => h)
  have hz := hO.size
  have hz' : w.heap.size + 1 ≤ w1.heap.size := by simpa using hz
  go_wp2_with (refine wpList_store_row rfl 93 (.tmp 2) (.tmp 53) rfl w.heap.size #[.int .i64 2, .func (.func 64) #[] #[.pointer (some ⟨cb, 0, none⟩)]] rfl rfl _ _ hb1 info_form rfl (by simp [Value.oneCell']) ?_)
  refine bodyPost_ret (results_row_tmp rfl _ _ w.heap.size _ #[.int .i64 2, .func (.func 64) #[] #[.pointer (some ⟨cb, 0, none⟩)]] _ _ rfl (blk_setRow hb1 _) Try.underlying93 rfl info_form) rfl ?_
  have hOF : Only No w (w1.setRow w.heap.size #[.int .i64 2, .func (.func 64) #[] #[.pointer (some ⟨cb, 0, none⟩)]]) := only_setRow (((Only.refl _ _).alloc _).trans hO) _ _ (fun hk => absurd hk (Nat.lt_irrefl _))
  refine ⟨_, rfl, rfl, hOF, fun hlen => ⟨64, #[.pointer (some ⟨cb, 0, none⟩)], rfl, fun args W => by kernel_rfl, fun W b0 rb0 hO2 hle hx hw => ?_⟩⟩
  obtain ⟨a, rfl⟩ := one_len (show r.length = _ by omega)
  have hR : rdM (p :: [a]) = flightM 7 a := by
    simp only [rdM, hk]
  rw [hR]
  have hszs : (w1.setRow w.heap.size #[.int .i64 2, .func (.func 64) #[] #[.pointer (some ⟨cb, 0, none⟩)]]).heap.size = w1.heap.size := by simp
  have hcc : (w1.setRow w.heap.size #[.int .i64 2, .func (.func 64) #[] #[.pointer (some ⟨cb, 0, none⟩)]]).cell? ⟨cb, 0, none⟩ = some (.int .i64 7) := by
    by_cases he : cb = w.heap.size
    · exfalso
      have := hb1.cell 0 _ rfl
      rw [he, this] at hcb
      cases hcb
    · exact ((only_setRow (S := (· = w.heap.size)) (Only.refl _ w1) w.heap.size _ (fun _ => rfl)).cell (p := ⟨cb, 0, none⟩) hcl he).trans hcb
  refine flight_c b0 rb0 cb 7 a W ((hO2.cell (p := ⟨cb, 0, none⟩) (by rw [hszs]; exact hcl) id).trans hcc) (by rw [hszs] at hle; omega) hw (by have := hx a (by simp); omega)
set_option maxRecDepth 100000 in
set_option maxHeartbeats 800000 in
theorem forms8_c (v : Value) (p : ByteArray) (r : List ByteArray) (hk : kindW p = 8) (w : World) (hv : Sees w v (txs (p :: r))) : Calls Try.prog 35 #[v] w (FormR p r w) := by
  obtain ⟨a0, cap, rfl, hcap, hf⟩ := hv.form
  obtain ⟨rb, o, rfl, hrb, hcell⟩ := hf (by simp [txs])
  have hl : (txs (p :: r)).length = r.length + 1 := by simp [txs]
  rw [hl]
  have g0 := hcell 0 (.string p) (by simp [txs])
  rw [Nat.add_zero] at g0
  have hM : many (p :: r) = 4 := by simp only [many, hk]
  obtain ⟨q1, q2, q3, q4, q5, q6, q7, q8, q9⟩ := kw_all p
  rw [hk] at q1 q2 q3 q4 q5 q6 q7 q8 q9
  replace q1 := q1.trans (show _ = false from rfl)
  replace q2 := q2.trans (show _ = false from rfl)
  replace q3 := q3.trans (show _ = false from rfl)
  replace q4 := q4.trans (show _ = false from rfl)
  replace q5 := q5.trans (show _ = false from rfl)
  replace q6 := q6.trans (show _ = false from rfl)
  replace q7 := q7.trans (show _ = false from rfl)
  replace q8 := q8.trans (show _ = true from rfl)
  replace q9 := q9.trans (show _ = false from rfl)
  unfold FormR
  rw [hM]
  clear hcell hf hv hl hM
  go_enter Try.func35, Try.ntmps35
  go_wp2_with fail
  have hB := Blk.new w #[.int .i64 4, .func (.func 73) #[] #[]] 93
  refine bodyPost_ret (results_row_tmp rfl _ _ w.heap.size _ _ _ _ rfl hB Try.underlying93 rfl info_form) rfl ?_
  refine ⟨_, rfl, rfl, (Only.refl _ _).alloc _, fun hlen => ⟨73, #[], rfl, fun args W => by kernel_rfl, fun W b0 rb0 hO hle hx hw => ?_⟩⟩
  obtain ⟨a, b, c, rfl⟩ := three_len (show r.length = _ by omega)
  have hR : rdM (p :: [a, b, c]) = spoilM a b c := by
    simp only [rdM, hk]
  rw [hR]
  exact spoil_c b0 rb0 a b c W hw (by have := hx a (by simp); omega) (by have := hx b (by simp); omega) (by have := hx c (by simp); omega)
set_option maxRecDepth 100000 in
set_option maxHeartbeats 800000 in
theorem forms9_c (v : Value) (p : ByteArray) (r : List ByteArray) (hk : kindW p = 9) (w : World) (hv : Sees w v (txs (p :: r))) : Calls Try.prog 35 #[v] w (FormR p r w) := by
  obtain ⟨a0, cap, rfl, hcap, hf⟩ := hv.form
  obtain ⟨rb, o, rfl, hrb, hcell⟩ := hf (by simp [txs])
  have hl : (txs (p :: r)).length = r.length + 1 := by simp [txs]
  rw [hl]
  have g0 := hcell 0 (.string p) (by simp [txs])
  rw [Nat.add_zero] at g0
  have hM : many (p :: r) = 3 := by simp only [many, hk]
  obtain ⟨q1, q2, q3, q4, q5, q6, q7, q8, q9⟩ := kw_all p
  rw [hk] at q1 q2 q3 q4 q5 q6 q7 q8 q9
  replace q1 := q1.trans (show _ = false from rfl)
  replace q2 := q2.trans (show _ = false from rfl)
  replace q3 := q3.trans (show _ = false from rfl)
  replace q4 := q4.trans (show _ = false from rfl)
  replace q5 := q5.trans (show _ = false from rfl)
  replace q6 := q6.trans (show _ = false from rfl)
  replace q7 := q7.trans (show _ = false from rfl)
  replace q8 := q8.trans (show _ = false from rfl)
  replace q9 := q9.trans (show _ = true from rfl)
  unfold FormR
  rw [hM]
  clear hcell hf hv hl hM
  go_enter Try.func35, Try.ntmps35
  go_wp2_with fail
  have hB := Blk.new w #[.int .i64 3, .func (.func 74) #[] #[]] 93
  refine bodyPost_ret (results_row_tmp rfl _ _ w.heap.size _ _ _ _ rfl hB Try.underlying93 rfl info_form) rfl ?_
  refine ⟨_, rfl, rfl, (Only.refl _ _).alloc _, fun hlen => ⟨74, #[], rfl, fun args W => by kernel_rfl, fun W b0 rb0 hO hle hx hw => ?_⟩⟩
  obtain ⟨a, b, rfl⟩ := two_len (show r.length = _ by omega)
  have hR : rdM (p :: [a, b]) = injectM a b := by
    simp only [rdM, hk]
  rw [hR]
  exact inject_c b0 rb0 a b W hw (by have := hx a (by simp); omega) (hx b (by simp))
set_option maxRecDepth 100000 in
set_option maxHeartbeats 800000 in
theorem forms0_c (v : Value) (p : ByteArray) (r : List ByteArray) (hk : kindW p = 0) (w : World) (hv : Sees w v (txs (p :: r))) : Calls Try.prog 35 #[v] w (FormR p r w) := by
  obtain ⟨a0, cap, rfl, hcap, hf⟩ := hv.form
  obtain ⟨rb, o, rfl, hrb, hcell⟩ := hf (by simp [txs])
  have hl : (txs (p :: r)).length = r.length + 1 := by simp [txs]
  rw [hl]
  have g0 := hcell 0 (.string p) (by simp [txs])
  rw [Nat.add_zero] at g0
  have hM : many (p :: r) = 0 := by simp only [many, hk]
  obtain ⟨q1, q2, q3, q4, q5, q6, q7, q8, q9⟩ := kw_all p
  rw [hk] at q1 q2 q3 q4 q5 q6 q7 q8 q9
  replace q1 := q1.trans (show _ = false from rfl)
  replace q2 := q2.trans (show _ = false from rfl)
  replace q3 := q3.trans (show _ = false from rfl)
  replace q4 := q4.trans (show _ = false from rfl)
  replace q5 := q5.trans (show _ = false from rfl)
  replace q6 := q6.trans (show _ = false from rfl)
  replace q7 := q7.trans (show _ = false from rfl)
  replace q8 := q8.trans (show _ = false from rfl)
  replace q9 := q9.trans (show _ = false from rfl)
  unfold FormR
  rw [hM]
  clear hcell hf hv hl hM
  go_enter Try.func35, Try.ntmps35
  go_wp2_with fail
  have hB := Blk.new w #[.int .i64 0, .nilFunc] 93
  refine bodyPost_ret (results_row_tmp rfl _ _ w.heap.size _ _ _ _ rfl hB Try.underlying93 rfl info_form) rfl ?_
  first
    | exact ⟨_, rfl, rfl, (Only.refl _ _).alloc _, fun hlen => by first | omega | simp at hlen⟩
    | exact ⟨_, rfl, rfl, (Only.refl _ _).alloc _⟩
set_option maxRecDepth 100000 in
set_option maxHeartbeats 800000 in
theorem forms1a_c (v : Value) (p : ByteArray) (hk : kindW p = 1) (w : World) (hv : Sees w v (txs (p :: ([] : List ByteArray)))) : Calls Try.prog 35 #[v] w (FormR p ([] : List ByteArray) w) := by
  obtain ⟨a0, cap, rfl, hcap, hf⟩ := hv.form
  obtain ⟨rb, o, rfl, hrb, hcell⟩ := hf (by simp [txs])
  have hl : (txs (p :: ([] : List ByteArray))).length = ([] : List ByteArray).length + 1 := by simp [txs]
  rw [hl]
  have g0 := hcell 0 (.string p) (by simp [txs])
  rw [Nat.add_zero] at g0
  have hM : many (p :: ([] : List ByteArray)) = 0 := by simp only [many, hk]
  obtain ⟨q1, q2, q3, q4, q5, q6, q7, q8, q9⟩ := kw_all p
  rw [hk] at q1 q2 q3 q4 q5 q6 q7 q8 q9
  replace q1 := q1.trans (show _ = true from rfl)
  replace q2 := q2.trans (show _ = false from rfl)
  replace q3 := q3.trans (show _ = false from rfl)
  replace q4 := q4.trans (show _ = false from rfl)
  replace q5 := q5.trans (show _ = false from rfl)
  replace q6 := q6.trans (show _ = false from rfl)
  replace q7 := q7.trans (show _ = false from rfl)
  replace q8 := q8.trans (show _ = false from rfl)
  replace q9 := q9.trans (show _ = false from rfl)
  have e1 : ((⟨#[]⟩ : ByteArray).toList == [97, 100, 100]) = false := by rw [ByteArray.toList_eq]; rfl
  have e2 : ((⟨#[]⟩ : ByteArray).toList == [114, 101, 109, 111, 118, 101]) = false := by rw [ByteArray.toList_eq]; rfl
  have e3 : ((⟨#[]⟩ : ByteArray).toList == [115, 101, 116]) = false := by rw [ByteArray.toList_eq]; rfl
  have e4 : ((⟨#[]⟩ : ByteArray).toList == [119, 114, 105, 116, 101]) = false := by rw [ByteArray.toList_eq]; rfl
  have e5 : ((⟨#[]⟩ : ByteArray).toList == [99, 108, 101, 97, 114]) = false := by rw [ByteArray.toList_eq]; rfl
  unfold FormR
  rw [hM]
  clear hcell hf hv hl hM
  simp only [List.length_nil] at *
  go_enter Try.func35, Try.ntmps35
  go_wp2_with fail
  have hB := Blk.new w #[.int .i64 0, .nilFunc] 93
  refine bodyPost_ret (results_row_tmp rfl _ _ w.heap.size _ _ _ _ rfl hB Try.underlying93 rfl info_form) rfl ?_
  first
    | exact ⟨_, rfl, rfl, (Only.refl _ _).alloc _, fun hlen => by first | omega | simp at hlen⟩
    | exact ⟨_, rfl, rfl, (Only.refl _ _).alloc _⟩
set_option maxRecDepth 100000 in
set_option maxHeartbeats 800000 in
theorem forms1b_c (v : Value) (p a : ByteArray) (hk : kindW p = 1) (w : World) (hv : Sees w v (txs (p :: [a]))) : Calls Try.prog 35 #[v] w (FormR p [a] w) := by
  obtain ⟨a0, cap, rfl, hcap, hf⟩ := hv.form
  obtain ⟨rb, o, rfl, hrb, hcell⟩ := hf (by simp [txs])
  have hl : (txs (p :: [a])).length = [a].length + 1 := by simp [txs]
  rw [hl]
  have g0 := hcell 0 (.string p) (by simp [txs])
  rw [Nat.add_zero] at g0
  have hM : many (p :: [a]) = 0 := by simp only [many, hk]
  obtain ⟨q1, q2, q3, q4, q5, q6, q7, q8, q9⟩ := kw_all p
  rw [hk] at q1 q2 q3 q4 q5 q6 q7 q8 q9
  replace q1 := q1.trans (show _ = true from rfl)
  replace q2 := q2.trans (show _ = false from rfl)
  replace q3 := q3.trans (show _ = false from rfl)
  replace q4 := q4.trans (show _ = false from rfl)
  replace q5 := q5.trans (show _ = false from rfl)
  replace q6 := q6.trans (show _ = false from rfl)
  replace q7 := q7.trans (show _ = false from rfl)
  replace q8 := q8.trans (show _ = false from rfl)
  replace q9 := q9.trans (show _ = false from rfl)
  have e1 : ((⟨#[]⟩ : ByteArray).toList == [97, 100, 100]) = false := by rw [ByteArray.toList_eq]; rfl
  have e2 : ((⟨#[]⟩ : ByteArray).toList == [114, 101, 109, 111, 118, 101]) = false := by rw [ByteArray.toList_eq]; rfl
  have e3 : ((⟨#[]⟩ : ByteArray).toList == [115, 101, 116]) = false := by rw [ByteArray.toList_eq]; rfl
  have e4 : ((⟨#[]⟩ : ByteArray).toList == [119, 114, 105, 116, 101]) = false := by rw [ByteArray.toList_eq]; rfl
  have e5 : ((⟨#[]⟩ : ByteArray).toList == [99, 108, 101, 97, 114]) = false := by rw [ByteArray.toList_eq]; rfl
  unfold FormR
  rw [hM]
  clear hcell hf hv hl hM
  simp only [List.length_nil, List.length_cons] at *
  go_enter Try.func35, Try.ntmps35
  go_wp2_with fail
  have hB := Blk.new w #[.int .i64 0, .nilFunc] 93
  refine bodyPost_ret (results_row_tmp rfl _ _ w.heap.size _ _ _ _ rfl hB Try.underlying93 rfl info_form) rfl ?_
  first
    | exact ⟨_, rfl, rfl, (Only.refl _ _).alloc _, fun hlen => by first | omega | simp at hlen⟩
    | exact ⟨_, rfl, rfl, (Only.refl _ _).alloc _⟩
set_option maxRecDepth 100000 in
set_option maxHeartbeats 800000 in
theorem forms10_c (v : Value) (p a q : ByteArray) (r : List ByteArray) (hk : kindW p = 1) (hq : opW q = 0) (w : World) (hv : Sees w v (txs (p :: (a :: q :: r)))) : Calls Try.prog 35 #[v] w (FormR p (a :: q :: r) w) := by
  obtain ⟨a0, cap, rfl, hcap, hf⟩ := hv.form
  obtain ⟨rb, o, rfl, hrb, hcell⟩ := hf (by simp [txs])
  have hl : (txs (p :: (a :: q :: r))).length = (a :: q :: r).length + 1 := by simp [txs]
  rw [hl]
  have g0 := hcell 0 (.string p) (by simp [txs])
  rw [Nat.add_zero] at g0
  have g2 := hcell 2 (.string q) (by simp [txs])
  have hM : many (p :: a :: q :: r) = 0 := by
    simp only [many, hk, hq]
    rfl
  obtain ⟨q1, q2, q3, q4, q5, q6, q7, q8, q9⟩ := kw_all p
  rw [hk] at q1 q2 q3 q4 q5 q6 q7 q8 q9
  replace q1 := q1.trans (show _ = true from rfl)
  replace q2 := q2.trans (show _ = false from rfl)
  replace q3 := q3.trans (show _ = false from rfl)
  replace q4 := q4.trans (show _ = false from rfl)
  replace q5 := q5.trans (show _ = false from rfl)
  replace q6 := q6.trans (show _ = false from rfl)
  replace q7 := q7.trans (show _ = false from rfl)
  replace q8 := q8.trans (show _ = false from rfl)
  replace q9 := q9.trans (show _ = false from rfl)
  obtain ⟨o1, o2, o3, o4, o5⟩ := ow_all q
  rw [hq] at o1 o2 o3 o4 o5
  replace o1 := o1.trans (show _ = false from rfl)
  replace o2 := o2.trans (show _ = false from rfl)
  replace o3 := o3.trans (show _ = false from rfl)
  replace o4 := o4.trans (show _ = false from rfl)
  replace o5 := o5.trans (show _ = false from rfl)
  unfold FormR
  rw [hM]
  have hlen3 : (a :: q :: r).length + 1 = r.length + 3 := by simp
  rw [hlen3] at *
  clear hcell hf hv hl hM
  go_enter Try.func35, Try.ntmps35
  go_wp2_with fail
  have hB := Blk.new w #[.int .i64 0, .nilFunc] 93
  refine bodyPost_ret (results_row_tmp rfl _ _ w.heap.size _ _ _ _ rfl hB Try.underlying93 rfl info_form) rfl ?_
  first
    | exact ⟨_, rfl, rfl, (Only.refl _ _).alloc _, fun hlen => by first | omega | simp at hlen⟩
    | exact ⟨_, rfl, rfl, (Only.refl _ _).alloc _⟩
set_option maxRecDepth 100000 in
set_option maxHeartbeats 800000 in
theorem forms11_c (v : Value) (p a q : ByteArray) (r : List ByteArray) (hk : kindW p = 1) (hq : opW q = 1) (w : World) (hv : Sees w v (txs (p :: (a :: q :: r)))) : Calls Try.prog 35 #[v] w (FormR p (a :: q :: r) w) := by
  obtain ⟨a0, cap, rfl, hcap, hf⟩ := hv.form
  obtain ⟨rb, o, rfl, hrb, hcell⟩ := hf (by simp [txs])
  have hl : (txs (p :: (a :: q :: r))).length = (a :: q :: r).length + 1 := by simp [txs]
  rw [hl]
  have g0 := hcell 0 (.string p) (by simp [txs])
  rw [Nat.add_zero] at g0
  have g2 := hcell 2 (.string q) (by simp [txs])
  have hM : many (p :: a :: q :: r) = 6 := by
    simp only [many, hk, hq]
    rfl
  obtain ⟨q1, q2, q3, q4, q5, q6, q7, q8, q9⟩ := kw_all p
  rw [hk] at q1 q2 q3 q4 q5 q6 q7 q8 q9
  replace q1 := q1.trans (show _ = true from rfl)
  replace q2 := q2.trans (show _ = false from rfl)
  replace q3 := q3.trans (show _ = false from rfl)
  replace q4 := q4.trans (show _ = false from rfl)
  replace q5 := q5.trans (show _ = false from rfl)
  replace q6 := q6.trans (show _ = false from rfl)
  replace q7 := q7.trans (show _ = false from rfl)
  replace q8 := q8.trans (show _ = false from rfl)
  replace q9 := q9.trans (show _ = false from rfl)
  obtain ⟨o1, o2, o3, o4, o5⟩ := ow_all q
  rw [hq] at o1 o2 o3 o4 o5
  replace o1 := o1.trans (show _ = true from rfl)
  replace o2 := o2.trans (show _ = false from rfl)
  replace o3 := o3.trans (show _ = false from rfl)
  replace o4 := o4.trans (show _ = false from rfl)
  replace o5 := o5.trans (show _ = false from rfl)
  unfold FormR
  rw [hM]
  have hlen3 : (a :: q :: r).length + 1 = r.length + 3 := by simp
  rw [hlen3] at *
  clear hcell hf hv hl hM
  go_enter Try.func35, Try.ntmps35
  go_wp2_with fail
  have hB := Blk.new w #[.int .i64 6, .func (.func 66) #[] #[]] 93
  refine bodyPost_ret (results_row_tmp rfl _ _ w.heap.size _ _ _ _ rfl hB Try.underlying93 rfl info_form) rfl ?_
  refine ⟨_, rfl, rfl, (Only.refl _ _).alloc _, fun hlen => ⟨66, #[], rfl, fun args W => by kernel_rfl, fun W b0 rb0 hO hle hx hw => ?_⟩⟩
  obtain ⟨c, r2, rfl⟩ : ∃ c r2, r = c :: r2 := by
    match r, hlen with
    | c :: r2, _ => exact ⟨c, r2, rfl⟩
  obtain ⟨i, n, rfl⟩ := two_len (show r2.length = _ by first | omega | (simp at hlen; omega))
  have hR : rdM (p :: a :: q :: (c :: [i, n])) = doM a q c [i, n] := by
    simp only [rdM, hk]
  rw [hR]
  exact do_add_c b0 rb0 a q c i n W hw hq (by have := hx a (by simp); omega) (by have := hx c (by simp); omega) (by have := hx i (by simp); omega) (by have := hx n (by simp); omega)
set_option maxRecDepth 100000 in
set_option maxHeartbeats 800000 in
theorem forms12_c (v : Value) (p a q : ByteArray) (r : List ByteArray) (hk : kindW p = 1) (hq : opW q = 2) (w : World) (hv : Sees w v (txs (p :: (a :: q :: r)))) : Calls Try.prog 35 #[v] w (FormR p (a :: q :: r) w) := by
  obtain ⟨a0, cap, rfl, hcap, hf⟩ := hv.form
  obtain ⟨rb, o, rfl, hrb, hcell⟩ := hf (by simp [txs])
  have hl : (txs (p :: (a :: q :: r))).length = (a :: q :: r).length + 1 := by simp [txs]
  rw [hl]
  have g0 := hcell 0 (.string p) (by simp [txs])
  rw [Nat.add_zero] at g0
  have g2 := hcell 2 (.string q) (by simp [txs])
  have hM : many (p :: a :: q :: r) = 5 := by
    simp only [many, hk, hq]
    rfl
  obtain ⟨q1, q2, q3, q4, q5, q6, q7, q8, q9⟩ := kw_all p
  rw [hk] at q1 q2 q3 q4 q5 q6 q7 q8 q9
  replace q1 := q1.trans (show _ = true from rfl)
  replace q2 := q2.trans (show _ = false from rfl)
  replace q3 := q3.trans (show _ = false from rfl)
  replace q4 := q4.trans (show _ = false from rfl)
  replace q5 := q5.trans (show _ = false from rfl)
  replace q6 := q6.trans (show _ = false from rfl)
  replace q7 := q7.trans (show _ = false from rfl)
  replace q8 := q8.trans (show _ = false from rfl)
  replace q9 := q9.trans (show _ = false from rfl)
  obtain ⟨o1, o2, o3, o4, o5⟩ := ow_all q
  rw [hq] at o1 o2 o3 o4 o5
  replace o1 := o1.trans (show _ = false from rfl)
  replace o2 := o2.trans (show _ = true from rfl)
  replace o3 := o3.trans (show _ = false from rfl)
  replace o4 := o4.trans (show _ = false from rfl)
  replace o5 := o5.trans (show _ = false from rfl)
  unfold FormR
  rw [hM]
  have hlen3 : (a :: q :: r).length + 1 = r.length + 3 := by simp
  rw [hlen3] at *
  clear hcell hf hv hl hM
  go_enter Try.func35, Try.ntmps35
  go_wp2_with fail
  have hB := Blk.new w #[.int .i64 5, .func (.func 66) #[] #[]] 93
  refine bodyPost_ret (results_row_tmp rfl _ _ w.heap.size _ _ _ _ rfl hB Try.underlying93 rfl info_form) rfl ?_
  refine ⟨_, rfl, rfl, (Only.refl _ _).alloc _, fun hlen => ⟨66, #[], rfl, fun args W => by kernel_rfl, fun W b0 rb0 hO hle hx hw => ?_⟩⟩
  obtain ⟨c, r2, rfl⟩ : ∃ c r2, r = c :: r2 := by
    match r, hlen with
    | c :: r2, _ => exact ⟨c, r2, rfl⟩
  obtain ⟨i, rfl⟩ := one_len (show r2.length = _ by first | omega | (simp at hlen; omega))
  have hR : rdM (p :: a :: q :: (c :: [i])) = doM a q c [i] := by
    simp only [rdM, hk]
  rw [hR]
  exact do_remove_c b0 rb0 a q c i W hw hq (by have := hx a (by simp); omega) (by have := hx c (by simp); omega) (by have := hx i (by simp); omega)
set_option maxRecDepth 100000 in
set_option maxHeartbeats 800000 in
theorem forms13_c (v : Value) (p a q : ByteArray) (r : List ByteArray) (hk : kindW p = 1) (hq : opW q = 3) (w : World) (hv : Sees w v (txs (p :: (a :: q :: r)))) : Calls Try.prog 35 #[v] w (FormR p (a :: q :: r) w) := by
  obtain ⟨a0, cap, rfl, hcap, hf⟩ := hv.form
  obtain ⟨rb, o, rfl, hrb, hcell⟩ := hf (by simp [txs])
  have hl : (txs (p :: (a :: q :: r))).length = (a :: q :: r).length + 1 := by simp [txs]
  rw [hl]
  have g0 := hcell 0 (.string p) (by simp [txs])
  rw [Nat.add_zero] at g0
  have g2 := hcell 2 (.string q) (by simp [txs])
  have hM : many (p :: a :: q :: r) = 6 := by
    simp only [many, hk, hq]
    rfl
  obtain ⟨q1, q2, q3, q4, q5, q6, q7, q8, q9⟩ := kw_all p
  rw [hk] at q1 q2 q3 q4 q5 q6 q7 q8 q9
  replace q1 := q1.trans (show _ = true from rfl)
  replace q2 := q2.trans (show _ = false from rfl)
  replace q3 := q3.trans (show _ = false from rfl)
  replace q4 := q4.trans (show _ = false from rfl)
  replace q5 := q5.trans (show _ = false from rfl)
  replace q6 := q6.trans (show _ = false from rfl)
  replace q7 := q7.trans (show _ = false from rfl)
  replace q8 := q8.trans (show _ = false from rfl)
  replace q9 := q9.trans (show _ = false from rfl)
  obtain ⟨o1, o2, o3, o4, o5⟩ := ow_all q
  rw [hq] at o1 o2 o3 o4 o5
  replace o1 := o1.trans (show _ = false from rfl)
  replace o2 := o2.trans (show _ = false from rfl)
  replace o3 := o3.trans (show _ = true from rfl)
  replace o4 := o4.trans (show _ = false from rfl)
  replace o5 := o5.trans (show _ = false from rfl)
  unfold FormR
  rw [hM]
  have hlen3 : (a :: q :: r).length + 1 = r.length + 3 := by simp
  rw [hlen3] at *
  clear hcell hf hv hl hM
  go_enter Try.func35, Try.ntmps35
  go_wp2_with fail
  have hB := Blk.new w #[.int .i64 6, .func (.func 66) #[] #[]] 93
  refine bodyPost_ret (results_row_tmp rfl _ _ w.heap.size _ _ _ _ rfl hB Try.underlying93 rfl info_form) rfl ?_
  refine ⟨_, rfl, rfl, (Only.refl _ _).alloc _, fun hlen => ⟨66, #[], rfl, fun args W => by kernel_rfl, fun W b0 rb0 hO hle hx hw => ?_⟩⟩
  obtain ⟨c, r2, rfl⟩ : ∃ c r2, r = c :: r2 := by
    match r, hlen with
    | c :: r2, _ => exact ⟨c, r2, rfl⟩
  obtain ⟨i, n, rfl⟩ := two_len (show r2.length = _ by first | omega | (simp at hlen; omega))
  have hR : rdM (p :: a :: q :: (c :: [i, n])) = doM a q c [i, n] := by
    simp only [rdM, hk]
  rw [hR]
  exact do_set_c b0 rb0 a q c i n W hw hq (by have := hx a (by simp); omega) (by have := hx c (by simp); omega) (by have := hx i (by simp); omega) (by have := hx n (by simp); omega)
set_option maxRecDepth 100000 in
set_option maxHeartbeats 800000 in
theorem forms14_c (v : Value) (p a q : ByteArray) (r : List ByteArray) (hk : kindW p = 1) (hq : opW q = 4) (w : World) (hv : Sees w v (txs (p :: (a :: q :: r)))) : Calls Try.prog 35 #[v] w (FormR p (a :: q :: r) w) := by
  obtain ⟨a0, cap, rfl, hcap, hf⟩ := hv.form
  obtain ⟨rb, o, rfl, hrb, hcell⟩ := hf (by simp [txs])
  have hl : (txs (p :: (a :: q :: r))).length = (a :: q :: r).length + 1 := by simp [txs]
  rw [hl]
  have g0 := hcell 0 (.string p) (by simp [txs])
  rw [Nat.add_zero] at g0
  have g2 := hcell 2 (.string q) (by simp [txs])
  have hM : many (p :: a :: q :: r) = 5 := by
    simp only [many, hk, hq]
    rfl
  obtain ⟨q1, q2, q3, q4, q5, q6, q7, q8, q9⟩ := kw_all p
  rw [hk] at q1 q2 q3 q4 q5 q6 q7 q8 q9
  replace q1 := q1.trans (show _ = true from rfl)
  replace q2 := q2.trans (show _ = false from rfl)
  replace q3 := q3.trans (show _ = false from rfl)
  replace q4 := q4.trans (show _ = false from rfl)
  replace q5 := q5.trans (show _ = false from rfl)
  replace q6 := q6.trans (show _ = false from rfl)
  replace q7 := q7.trans (show _ = false from rfl)
  replace q8 := q8.trans (show _ = false from rfl)
  replace q9 := q9.trans (show _ = false from rfl)
  obtain ⟨o1, o2, o3, o4, o5⟩ := ow_all q
  rw [hq] at o1 o2 o3 o4 o5
  replace o1 := o1.trans (show _ = false from rfl)
  replace o2 := o2.trans (show _ = false from rfl)
  replace o3 := o3.trans (show _ = false from rfl)
  replace o4 := o4.trans (show _ = true from rfl)
  replace o5 := o5.trans (show _ = false from rfl)
  unfold FormR
  rw [hM]
  have hlen3 : (a :: q :: r).length + 1 = r.length + 3 := by simp
  rw [hlen3] at *
  clear hcell hf hv hl hM
  go_enter Try.func35, Try.ntmps35
  go_wp2_with fail
  have hB := Blk.new w #[.int .i64 5, .func (.func 66) #[] #[]] 93
  refine bodyPost_ret (results_row_tmp rfl _ _ w.heap.size _ _ _ _ rfl hB Try.underlying93 rfl info_form) rfl ?_
  refine ⟨_, rfl, rfl, (Only.refl _ _).alloc _, fun hlen => ⟨66, #[], rfl, fun args W => by kernel_rfl, fun W b0 rb0 hO hle hx hw => ?_⟩⟩
  obtain ⟨c, r2, rfl⟩ : ∃ c r2, r = c :: r2 := by
    match r, hlen with
    | c :: r2, _ => exact ⟨c, r2, rfl⟩
  obtain ⟨t, rfl⟩ := one_len (show r2.length = _ by first | omega | (simp at hlen; omega))
  have hR : rdM (p :: a :: q :: (c :: [t])) = doM a q c [t] := by
    simp only [rdM, hk]
  rw [hR]
  exact do_write_c b0 rb0 a q c t W hw hq (by have := hx a (by simp); omega) (by have := hx c (by simp); omega) (by have := hx t (by simp); omega)
set_option maxRecDepth 100000 in
set_option maxHeartbeats 800000 in
theorem forms15_c (v : Value) (p a q : ByteArray) (r : List ByteArray) (hk : kindW p = 1) (hq : opW q = 5) (w : World) (hv : Sees w v (txs (p :: (a :: q :: r)))) : Calls Try.prog 35 #[v] w (FormR p (a :: q :: r) w) := by
  obtain ⟨a0, cap, rfl, hcap, hf⟩ := hv.form
  obtain ⟨rb, o, rfl, hrb, hcell⟩ := hf (by simp [txs])
  have hl : (txs (p :: (a :: q :: r))).length = (a :: q :: r).length + 1 := by simp [txs]
  rw [hl]
  have g0 := hcell 0 (.string p) (by simp [txs])
  rw [Nat.add_zero] at g0
  have g2 := hcell 2 (.string q) (by simp [txs])
  have hM : many (p :: a :: q :: r) = 4 := by
    simp only [many, hk, hq]
    rfl
  obtain ⟨q1, q2, q3, q4, q5, q6, q7, q8, q9⟩ := kw_all p
  rw [hk] at q1 q2 q3 q4 q5 q6 q7 q8 q9
  replace q1 := q1.trans (show _ = true from rfl)
  replace q2 := q2.trans (show _ = false from rfl)
  replace q3 := q3.trans (show _ = false from rfl)
  replace q4 := q4.trans (show _ = false from rfl)
  replace q5 := q5.trans (show _ = false from rfl)
  replace q6 := q6.trans (show _ = false from rfl)
  replace q7 := q7.trans (show _ = false from rfl)
  replace q8 := q8.trans (show _ = false from rfl)
  replace q9 := q9.trans (show _ = false from rfl)
  obtain ⟨o1, o2, o3, o4, o5⟩ := ow_all q
  rw [hq] at o1 o2 o3 o4 o5
  replace o1 := o1.trans (show _ = false from rfl)
  replace o2 := o2.trans (show _ = false from rfl)
  replace o3 := o3.trans (show _ = false from rfl)
  replace o4 := o4.trans (show _ = false from rfl)
  replace o5 := o5.trans (show _ = true from rfl)
  unfold FormR
  rw [hM]
  have hlen3 : (a :: q :: r).length + 1 = r.length + 3 := by simp
  rw [hlen3] at *
  clear hcell hf hv hl hM
  go_enter Try.func35, Try.ntmps35
  go_wp2_with fail
  have hB := Blk.new w #[.int .i64 4, .func (.func 66) #[] #[]] 93
  refine bodyPost_ret (results_row_tmp rfl _ _ w.heap.size _ _ _ _ rfl hB Try.underlying93 rfl info_form) rfl ?_
  refine ⟨_, rfl, rfl, (Only.refl _ _).alloc _, fun hlen => ⟨66, #[], rfl, fun args W => by kernel_rfl, fun W b0 rb0 hO hle hx hw => ?_⟩⟩
  obtain ⟨c, rfl⟩ := one_len (show r.length = _ by first | omega | (simp at hlen; omega))
  have hR : rdM (p :: a :: q :: [c]) = doM a q c [] := by
    simp only [rdM, hk]
  rw [hR]
  exact do_clear_c b0 rb0 a q c W hw hq (by have := hx a (by simp); omega) (by have := hx c (by simp); omega) 
theorem forms_c (v : Value) (p : ByteArray) (r : List ByteArray) (w : World) (hv : Sees w v (txs (p :: r))) : Calls Try.prog 35 #[v] w (FormR p r w) := by
  have hle := kindW_le p
  rcases hk : kindW p with _ | _ | _ | _ | _ | _ | _ | _ | _ | _ | n
  · exact forms0_c v p r hk w hv
  · match r, hv with
    | [], hv => exact forms1a_c v p hk w hv
    | [a], hv => exact forms1b_c v p a hk w hv
    | a :: q :: r, hv =>
      have hle := opW_le q
      rcases hq : opW q with _ | _ | _ | _ | _ | _ | n
      · exact forms10_c v p a q r hk hq w hv
      · exact forms11_c v p a q r hk hq w hv
      · exact forms12_c v p a q r hk hq w hv
      · exact forms13_c v p a q r hk hq w hv
      · exact forms14_c v p a q r hk hq w hv
      · exact forms15_c v p a q r hk hq w hv
      · omega
  · exact forms2_c v p r hk w hv
  · exact forms3_c v p r hk w hv
  · exact forms4_c v p r hk w hv
  · exact forms5_c v p r hk w hv
  · exact forms6_c v p r hk w hv
  · exact forms7_c v p r hk w hv
  · exact forms8_c v p r hk w hv
  · exact forms9_c v p r hk w hv
  · omega
set_option maxRecDepth 100000 in
theorem formsE_c (a : Option Addr) (cap : Nat) (w : World) : Calls Try.prog 35 #[.slice a 0 cap] w fun x w' => x = .returned (.tuple #[.agg #[.int .i64 0, .nilFunc], .bool false]) ∧ Only No w w' := by
  go_enter Try.func35, Try.ntmps35
  go_wp2_with fail
  have hB := Blk.new w #[.int .i64 0, .nilFunc] 93
  refine bodyPost_ret (results_row_tmp rfl _ _ w.heap.size _ _ _ _ rfl hB Try.underlying93 rfl info_form) rfl ?_
  exact ⟨rfl, (Only.refl _ _).alloc _⟩
end Go.Proofs.Ytlilhdkaaendlaa
