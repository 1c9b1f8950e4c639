/- The document's Far: the walk. No statement is proved here. -/
import Derived.Test.YtpegbplppfbomaaTref
import Derived.Test.YtpegbplppfbomaaTfar
import Derived.Test.YtpegbplppfbomaaGfarW
namespace Go.Proofs.Ytpegbplppfbomaa
open Go.RowKit Go.Maps Go.Shelf

def Bd (m : Int) (out : List Int) : Prop := ∀ i, -1 ≤ out.getD i 0 ∧ out.getD i 0 ≤ m
theorem relax_len (j : Nat → Nat → Bool) (b : Nat) (out : List Int) (c : Nat) : (relax j b out c).length = out.length := by unfold relax; split <;> simp
theorem relaxs_len (j : Nat → Nat → Bool) (b : Nat) (cs : List Nat) : ∀ out : List Int, (cs.foldl (relax j b) out).length = out.length := by
  induction cs with
  | nil => intro _; rfl
  | cons c cs ih => intro out; rw [List.foldl_cons, ih, relax_len]
theorem relaxBs_len (j : Nat → Nat → Bool) (n : Nat) (bs : List Nat) : ∀ out : List Int, (bs.foldl (relaxB j n) out).length = out.length := by
  induction bs with
  | nil => intro _; rfl
  | cons c cs ih => intro out; rw [List.foldl_cons, ih]; exact relaxs_len _ _ _ _
theorem farR_len (j : Nat → Nat → Bool) (n a r : Nat) : (farR j n a r).length = n := by
  induction r with
  | zero => simp [farR, startR]
  | succ r ih => show (roundR j n (farR j n a r)).length = n; unfold roundR; rw [relaxBs_len, ih]
theorem Bd.relax {j : Nat → Nat → Bool} {b c : Nat} {out : List Int} {m : Int} (h : Bd m out) : Bd (m + 1) (relax j b out c) := by
  unfold Go.Proofs.Ytpegbplppfbomaa.relax
  split
  · rename_i hx
    intro i
    have hc := h c
    have hi := h i
    by_cases hb : b < out.length
    · rw [set_getD hb]; split <;> omega
    · rw [List.set_eq_of_length_le (by omega)]; omega
  · intro i; have := h i; omega
theorem Bd.relaxs {j : Nat → Nat → Bool} {b : Nat} (cs : List Nat) : ∀ {out : List Int} {m : Int}, Bd m out → Bd (m + cs.length) (cs.foldl (Go.Proofs.Ytpegbplppfbomaa.relax j b) out) := by
  induction cs with
  | nil => intro out m h; simpa using h
  | cons c cs ih => intro out m h; have := ih (h.relax (j := j) (b := b) (c := c)); rw [List.foldl_cons, List.length_cons]; rwa [show m + ((cs.length + 1 : Nat) : Int) = m + 1 + cs.length by omega]
theorem Bd.relaxBs {j : Nat → Nat → Bool} {n : Nat} (hn : n ≤ 16) (bs : List Nat) : ∀ {out : List Int} {m : Int}, Bd m out → Bd (m + 16 * bs.length) (bs.foldl (relaxB j n) out) := by
  induction bs with
  | nil => intro out m h; simpa using h
  | cons b bs ih =>
    intro out m h
    have h1 : Bd (m + 16) (relaxB j n out b) := fun i => by
      have := (h.relaxs (j := j) (b := b) (List.range n)) i
      rw [List.length_range] at this
      exact ⟨this.1, by have := this.2; unfold relaxB; omega⟩
    have := ih h1
    rw [List.foldl_cons, List.length_cons]
    rwa [show m + 16 * ((bs.length + 1 : Nat) : Int) = m + 16 + 16 * bs.length by omega]
theorem farR_bd (j : Nat → Nat → Bool) {n : Nat} (a : Nat) (hn : n ≤ 16) (r : Nat) : Bd (256 * r) (farR j n a r) := by
  induction r with
  | zero =>
    intro i
    show -1 ≤ (startR n a).getD i 0 ∧ (startR n a).getD i 0 ≤ _
    by_cases hi : i < n
    · rw [startR_get hi]; split <;> omega
    · rw [List.getD_eq_getElem?_getD, List.getElem?_eq_none (by simp [startR]; omega)]; simp
  | succ r ih =>
    intro i
    have := (ih.relaxBs (j := j) hn (List.range n)) i
    rw [List.length_range] at this
    exact ⟨this.1, by have := this.2; show (roundR j n (farR j n a r)).getD i 0 ≤ _; unfold roundR; omega⟩
theorem takeTo_set {L : List Int} {n k : Nat} (hL : L.length = n) (h : k < n) {y : Int} (hy : L.getD k 0 = y) : (L.take k ++ List.replicate (n - k) 0).set k y = L.take (k + 1) ++ List.replicate (n - (k + 1)) 0 := by
  have hl : k < L.length := by omega
  have hx : L[k] = y := by rw [← hy, List.getD_eq_getElem?_getD, List.getElem?_eq_getElem hl]; rfl
  rw [List.take_succ_eq_append_getElem hl, hx, List.set_append_right _ _ (by rw [List.length_take]; omega), List.length_take, show k - min k L.length = 0 by omega, show n - k = (n - (k + 1)) + 1 by omega, List.replicate_succ, List.set_cons_zero, List.append_assoc]
  rfl
theorem startR_len (n a : Nat) : (startR n a).length = n := by simp [startR]

set_option maxRecDepth 100000 in
set_option maxHeartbeats 1000000 in
theorem rFar_c (n : Int) (v : Value) (l : List (Nat × Nat)) (a : Nat) (w : World) (hv : Sees2 w v l) (hl : l.length ≤ 1000) (ha : a < 256) (hJ : Joins (jOf (nOf n) l) (nOf n)) :
    Calls Try.prog 65 #[.int .i64 n, v, .int .u8 (a : Int)] w fun e w' => ∃ v', e = .returned v' ∧ w'.ownsRow w.heap.size 3 1 v' (nOf n) ((farM (jOf (nOf n) l) (nOf n) a).map (Value.int .i64)) ∧ Only No w w' := by
  have hN := nOf_bd n
  have HFIN := Lib.hid (farR_far (a := a) hJ hN.2)
  obtain ⟨j, hj⟩ : ∃ j, j = jOf (nOf n) l := ⟨_, rfl⟩
  have HH := Lib.hid (show ∀ w', Only No w w' → ∀ a b : Nat, a < 256 → b < 256 → Calls Try.prog 66 #[.int .i64 n, v, .int .u8 (a : Int), .int .u8 (b : Int)] w' fun e w'' => e = .returned (.bool (j a b)) ∧ w' = w'' from fun w' ho a b ha hb => by rw [hj]; exact rHas_c n v l w' (hv.no ho) a b ha hb hl)
  have HR := Lib.hid (show ∀ w, Calls Try.prog 74 #[.int .i64 n] w fun e w' => e = .returned (.int .i64 (nOf n : Int)) ∧ w = w' from fun w => rN_c n w)
  rw [← hj] at HFIN ⊢
  clear hj hv hJ
  generalize nOf n = N at *
  have hmk := fun W : World => make_ints N W (by omega)
  go_enter Try.func65, Try.ntmps65
  go_wp2_with (go_at_call 74; refine (HR.out _).mono ?_; rintro e w1 ⟨rfl, rfl⟩)
  go_loopg [8] (N : Nat) (fun g v8 wr => ∃ k : Nat, k + g = N ∧ v8 = .int .i64 k ∧ IntRow wr w.heap.size ((startR N a).take k ++ List.replicate (N - k) 0) ∧ Only No w wr)
  case atStart => exact ⟨0, by omega, rfl, IntRow.made (Blk.new _ _ _), (Only.refl _ _).alloc _⟩
  case round =>
    obtain ⟨k, hk, rfl, hrow, hO⟩ := hrel
    by_cases hlt : k < N
    · have hlt' : (k : Int) < (N : Int) := by omega
      have hll : ((startR N a).take k ++ List.replicate (N - k) 0).length = N := by simp [startR_len]; omega
      have hc := hrow.cell (i := k) (by omega)
      have hf := Blk.free hrow k
      have HS := Lib.hid (fun y hy => takeTo_set (y := y) (startR_len N a) hlt hy)
      have HG := Lib.hid (startR_get (a := a) hlt)
      generalize (startR N a).take k ++ List.replicate (N - k) 0 = L at *
      have hset := hrow.set k (-1)
      have hOs : Only No w (wr.setCell ⟨w.heap.size, k, none⟩ (.int .i64 (-1))) := hO.setCell _ _ (fun h => absurd h (by simp))
      by_cases hka : k = a
      · have dk : ((k : Int) == (a : Int)) = true := by simp [hka]
        have hc2 := hset.cell (i := k) (by simp; omega)
        have hf2 := Blk.free hset k
        rw [if_pos hka] at HG
        clear hka
        go_wp2_with fail
        go_roundg (N - (k + 1))
        case measure => omega
        case rel => exact ⟨k + 1, by omega, by go_num, by rw [← HS.out 0 HG.out, ← List.set_set (a := -1)]; exact hset.set k 0, hOs.setCell _ _ (fun h => absurd h (by simp))⟩
      · have dk : ((k : Int) == (a : Int)) = false := by simp; omega
        rw [if_neg hka] at HG
        clear hka
        go_wp2_with fail
        go_roundg (N - (k + 1))
        case measure => omega
        case rel => exact ⟨k + 1, by omega, by go_num, by rw [← HS.out (-1) HG.out]; exact hset, hOs⟩
    · have hke : k = N := by omega
      subst hke
      rw [Nat.sub_self, List.replicate_zero, List.append_nil, List.take_of_length_le (by rw [startR_len]; omega)] at hrow
      go_wp2_with fail
      go_loopg [9] (16 : Nat) (fun g v9 wr => ∃ r : Nat, r + g = 16 ∧ v9 = .int .i64 r ∧ IntRow wr w.heap.size (farR j k a r) ∧ Only No w wr)
      case atStart => exact ⟨0, by omega, rfl, hrow, hO⟩
      case round =>
        clear hrow hO
        obtain ⟨r, hr, rfl, hrow, hO⟩ := hrel
        by_cases hr16 : r < 16
        · have hr16' : (r : Int) < 16 := by omega
          have HN := Lib.hid (show farR j k a (r + 1) = (List.range k).foldl (relaxB j k) (farR j k a r) from rfl)
          have hB := farR_bd j a hN.2 r
          have hL := farR_len j k a r
          generalize farR j k a r = out0 at *
          go_wp2_with fail
          go_loopg [10] (k : Nat) (fun g v10 wr => ∃ b : Nat, b + g = k ∧ v10 = .int .i64 b ∧ IntRow wr w.heap.size ((List.range b).foldl (relaxB j k) out0) ∧ Only No w wr)
          case atStart => exact ⟨0, by omega, rfl, hrow, hO⟩
          case round =>
            clear hrow hO
            obtain ⟨b, hb, rfl, hrow, hO⟩ := hrel
            by_cases hbk : b < k
            · have hbk' : (b : Int) < (k : Int) := by omega
              have HNB := Lib.hid (show (List.range (b + 1)).foldl (relaxB j k) out0 = (List.range k).foldl (relax j b) ((List.range b).foldl (relaxB j k) out0) by rw [List.range_succ, List.foldl_append]; rfl)
              have hB1 := hB.relaxBs (j := j) hN.2 (List.range b)
              have hL1 := relaxBs_len j k (List.range b) out0
              rw [List.length_range] at hB1
              rw [hL] at hL1
              generalize (List.range b).foldl (relaxB j k) out0 = out1 at *
              go_wp2_with fail
              go_loopg [11] (k : Nat) (fun g v11 wr => ∃ c : Nat, c + g = k ∧ v11 = .int .i64 c ∧ IntRow wr w.heap.size ((List.range c).foldl (relax j b) out1) ∧ Only No w wr)
              case atStart => exact ⟨0, by omega, rfl, hrow, hO⟩
              case round =>
                clear hrow hO
                obtain ⟨c, hc, rfl, hrow, hO⟩ := hrel
                by_cases hck : c < k
                · have hck' : (c : Int) < (k : Int) := by omega
                  have HNC := Lib.hid (show (List.range (c + 1)).foldl (relax j b) out1 = relax j b ((List.range c).foldl (relax j b) out1) c by rw [List.range_succ, List.foldl_append]; rfl)
                  have hB2 := hB1.relaxs (j := j) (b := b) (List.range c)
                  have hL2 := relaxs_len j b (List.range c) out1
                  rw [List.length_range] at hB2
                  rw [hL1] at hL2
                  generalize (List.range c).foldl (relax j b) out1 = out2 at *
                  have x1 := hrow.cell (i := c) (by omega)
                  have x2 := hrow.cell (i := b) (by omega)
                  have xf := Blk.free hrow b
                  have bc := hB2 c
                  have HREL := Lib.hid (show relax j b out2 c = if 0 ≤ out2.getD c 0 ∧ j b c = true ∧ (out2.getD b 0 < 0 ∨ out2.getD c 0 + 1 < out2.getD b 0) then out2.set b (out2.getD c 0 + 1) else out2 from rfl)
                  have wb : IntKind.u8.wrap (b : Int) = (b : Int) := IntWalk.u8_in _ (by omega)
                  have wc : IntKind.u8.wrap (c : Int) = (c : Int) := IntWalk.u8_in _ (by omega)
                  generalize out2.getD c 0 = x at *
                  generalize out2.getD b 0 = y at *
                  have wx : IntKind.i64.wrap (x + 1) = x + 1 := IntWalk.i64_in _ (by omega)
                  have hrset := hrow.set b (x + 1)
                  have hOs : Only No w (wr.setCell ⟨w.heap.size, b, none⟩ (.int .i64 (x + 1))) := hO.setCell _ _ (fun h => absurd h (by simp))
                  clear hB hB1 hB2
                  by_cases hx : 0 ≤ x
                  · have dx : decide (0 ≤ x) = true := by simpa using hx
                    cases hj : j b c with
                    | true =>
                      have HCALL := Lib.hid (show ∀ q, Calls Try.prog 66 #[.int .i64 n, v, .int .u8 (b : Int), .int .u8 (c : Int)] (wr.drewN q) fun e w'' => e = .returned (.bool true) ∧ wr.drewN q = w'' from fun q => by rw [← hj]; exact HH.out (wr.drewN q) (hO.drewN q) b c (by omega) (by omega))
                      by_cases hy : y < 0
                      · have dy : decide (y < 0) = true := by simpa using hy
                        rw [if_pos ⟨hx, hj, .inl hy⟩] at HREL
                        clear hj hx
                        go_wp2_with fail
                        go_quiet ((go_at_call 66; exact quiet_of_eq (HCALL.out _)))
                        go_wp2_with fail
                        go_roundg (k - (c + 1))
                        case measure => omega
                        case rel => exact ⟨c + 1, by omega, by go_num, by rw [HNC.out, HREL.out]; exact hrset, (hO.drewN _).setCell _ _ (fun h => absurd h (by simp))⟩
                      · have dy : decide (y < 0) = false := by simpa using hy
                        by_cases hxy : x + 1 < y
                        · have dxy : decide (x + 1 < y) = true := by simpa using hxy
                          rw [if_pos ⟨hx, hj, .inr hxy⟩] at HREL
                          clear hj hx hy
                          go_wp2_with fail
                          go_quiet ((go_at_call 66; exact quiet_of_eq (HCALL.out _)))
                          go_wp2_with fail
                          go_roundg (k - (c + 1))
                          case measure => omega
                          case rel => exact ⟨c + 1, by omega, by go_num, by rw [HNC.out, HREL.out]; exact hrset, (hO.drewN _).setCell _ _ (fun h => absurd h (by simp))⟩
                        · have dxy : decide (x + 1 < y) = false := by simpa using hxy
                          rw [if_neg (fun h => h.2.2.elim hy hxy)] at HREL
                          clear hj hx hy
                          go_wp2_with fail
                          go_quiet ((go_at_call 66; exact quiet_of_eq (HCALL.out _)))
                          go_wp2_with fail
                          go_roundg (k - (c + 1))
                          case measure => omega
                          case rel => exact ⟨c + 1, by omega, by go_num, by rw [HNC.out, HREL.out]; exact hrow, hO.drewN _⟩
                    | false =>
                      have HCALL := Lib.hid (show ∀ q, Calls Try.prog 66 #[.int .i64 n, v, .int .u8 (b : Int), .int .u8 (c : Int)] (wr.drewN q) fun e w'' => e = .returned (.bool false) ∧ wr.drewN q = w'' from fun q => by rw [← hj]; exact HH.out (wr.drewN q) (hO.drewN q) b c (by omega) (by omega))
                      rw [if_neg (fun h => by rw [hj] at h; exact absurd h.2.1 (by simp))] at HREL
                      clear hj hx
                      go_wp2_with fail
                      go_quiet ((go_at_call 66; exact quiet_of_eq (HCALL.out _)))
                      go_wp2_with fail
                      go_roundg (k - (c + 1))
                      case measure => omega
                      case rel => exact ⟨c + 1, by omega, by go_num, by rw [HNC.out, HREL.out]; exact hrow, hO.drewN _⟩
                  · have dx : decide (0 ≤ x) = false := by simpa using hx
                    rw [if_neg (fun h => hx h.1)] at HREL
                    clear hx
                    go_wp2_with fail
                    go_quiet (fail)
                    go_wp2_with fail
                    go_roundg (k - (c + 1))
                    case measure => omega
                    case rel => exact ⟨c + 1, by omega, by go_num, by rw [HNC.out, HREL.out]; exact hrow, hO.drewN _⟩
                · have hcke : c = k := by omega
                  subst hcke
                  rw [← HNB.out] at hrow
                  go_wp2_with fail
                  go_roundg (c - (b + 1))
                  case measure => omega
                  case rel => exact ⟨b + 1, by omega, by go_num, hrow, hO⟩
            · have hbke : b = k := by omega
              subst hbke
              rw [← HN.out] at hrow
              go_wp2_with fail
              go_roundg (16 - (r + 1))
              case measure => omega
              case rel => exact ⟨r + 1, by omega, by go_num, hrow, hO⟩
        · have hre : r = 16 := by omega
          subst hre
          rw [HFIN.out] at hrow
          go_wp2_with fail
          go_ret
          exact ⟨_, rfl, hrow.row (farM_len j k a) (Nat.le_refl _) (by omega), hO⟩
end Go.Proofs.Ytpegbplppfbomaa
