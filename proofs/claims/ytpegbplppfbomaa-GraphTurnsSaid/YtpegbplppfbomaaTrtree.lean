/- The document's Tree: the walk. No statement is proved here. -/
import Derived.Test.YtpegbplppfbomaaTrfar
import Derived.Test.YtpegbplppfbomaaTtree
namespace Go.Proofs.Ytpegbplppfbomaa
open Go.RowKit Go.Maps Go.Shelf

theorem farM_bd {j : Nat → Nat → Bool} {n a b : Nat} (J : Joins j n) (hb : b < n) : -1 ≤ (farM j n a).getD b 0 ∧ (farM j n a).getD b 0 ≤ n := by
  by_cases ha : a < n
  · exact F_bd J ha hb
  · have : (farM j n a).getD b 0 = -1 := by unfold farM; rw [if_neg ha]; simp [hb]
    omega
/-- What the walk down has found, from m on. -/
def downM (j : Nat → Nat → Bool) (n : Nat) (far : List Int) (k m : Nat) : Int := if far.getD k 0 ≤ 0 then -1 else upTo j far k ((List.range' m (n - m)).filter (j k))
theorem downM_end (j : Nat → Nat → Bool) (n : Nat) (far : List Int) (k : Nat) : downM j n far k n = -1 := by
  unfold downM; rw [Nat.sub_self]; simp [upTo]
theorem downM_zero (j : Nat → Nat → Bool) (n a k : Nat) (h : k < n) : downM j n (farM j n a) k 0 = (treeM j n a).getD k 0 := by
  rw [treeM_get h]; unfold downM nears; rw [Nat.sub_zero, List.range_eq_range']
theorem downM_step {j : Nat → Nat → Bool} {n : Nat} {far : List Int} {k b : Nat} (h : b < n) :
    downM j n far k b = if 0 < far.getD k 0 ∧ far.getD b 0 = far.getD k 0 - 1 ∧ j k b = true then (b : Int) else downM j n far k (b + 1) := by
  unfold downM
  rw [show n - b = (n - (b + 1)) + 1 by omega, List.range'_succ, List.filter_cons]
  by_cases h0 : far.getD k 0 ≤ 0
  · rw [if_pos h0, if_pos h0, if_neg (by omega)]
  · rw [if_neg h0, if_neg h0]
    cases hj : j k b
    · simp
    · simp only [if_true]
      rw [upTo]
      by_cases hf : far.getD b 0 = far.getD k 0 - 1
      · rw [if_pos hf, if_pos ⟨by omega, hf, trivial⟩]
      · rw [if_neg hf, if_neg (fun h => hf h.2.1)]

set_option maxRecDepth 100000 in
set_option maxHeartbeats 1000000 in
theorem rTree_c (n : Int) (v : Value) (l : List (Nat × Nat)) (a : Nat) (w : World) (hv : Sees2 w v l) (hl : l.length ≤ 1000) (ha : a < 256) (hJ : Joins (jOf (nOf n) l) (nOf n)) :
    Calls Try.prog 49 #[.int .i64 n, v, .int .u8 (a : Int)] w fun e w' => ∃ v', e = .returned v' ∧ w'.ownsRow w.heap.size 3 1 v' (nOf n) ((treeM (jOf (nOf n) l) (nOf n) a).map (Value.int .i64)) ∧ Only No w w' := by
  have hN := nOf_bd n
  have HFAR := Lib.hid (rFar_c n v l a w hv hl ha hJ)
  obtain ⟨j, hj⟩ : ∃ j, j = jOf (nOf n) l := ⟨_, rfl⟩
  have HH := Lib.hid (show ∀ w', Only No w w' → ∀ a b : Nat, a < 256 → b < 256 → Calls Try.prog 66 #[.int .i64 n, v, .int .u8 (a : Int), .int .u8 (b : Int)] w' fun e w'' => e = .returned (.bool (j a b)) ∧ w' = w'' from fun w' ho a b ha hb => by rw [hj]; exact rHas_c n v l w' (hv.no ho) a b ha hb hl)
  rw [← hj] at HFAR hJ ⊢
  clear hj hv
  generalize nOf n = N at *
  have hmk := fun W : World => make_ints N W (by omega)
  have HBD := Lib.hid (fun b hb => farM_bd (a := a) (b := b) hJ hb)
  go_enter Try.func49, Try.ntmps49
  go_wp2_with fail
  refine HFAR.out.mono ?_
  rintro e w1 ⟨vf, rfl, hown, hO1⟩
  obtain ⟨fg, fc, rfl, -, hfg, hcell⟩ := row_cell hown (by omega)
  have HC := Lib.hid (show ∀ i, i < N → w1.cell? ⟨fg, i, none⟩ = some (.int .i64 ((farM j N a).getD i 0)) from fun i hi => hcell i _ (F_get hi))
  have HTG := Lib.hid (show ∀ k, k < N → downM j N (farM j N a) k 0 = (treeM j N a).getD k 0 from fun k hk => downM_zero j N a k hk)
  have hTL := treeM_len j N a
  obtain ⟨T, hT⟩ : ∃ T, T = treeM j N a := ⟨_, rfl⟩
  rw [← hT] at HTG hTL
  have HT := Lib.hid hT
  clear hT
  have HBDF := HBD
  clear hcell hown HBD HFAR
  generalize farM j N a = F at *
  go_wp2_with fail
  go_loopg [9] (N : Nat) (fun g v9 wr => ∃ k : Nat, k + g = N ∧ v9 = .int .i64 k ∧ IntRow wr w1.heap.size (T.take k ++ List.replicate (N - k) 0) ∧ Only No w1 wr)
  case atStart => exact ⟨0, by omega, rfl, IntRow.made (Blk.new _ _ _), (Only.refl _ _).alloc _⟩
  case round =>
    obtain ⟨k, hk, rfl, hrow, hO⟩ := hrel
    by_cases hlt : k < N
    · have hlt' : (k : Int) < (N : Int) := by omega
      have hll : (T.take k ++ List.replicate (N - k) 0).length = N := by simp [hTL]; omega
      have hc := hrow.cell (i := k) (by omega)
      have hf := Blk.free hrow k
      have HS := Lib.hid (fun y hy => takeTo_set (y := y) hTL hlt hy)
      generalize T.take k ++ List.replicate (N - k) 0 = L at *
      have hset := hrow.set k (-1)
      have hOs : Only No w1 (wr.setCell ⟨w1.heap.size, k, none⟩ (.int .i64 (-1))) := hO.setCell _ _ (fun h => absurd h (by simp))
      have wk : IntKind.u8.wrap (k : Int) = (k : Int) := IntWalk.u8_in _ (by omega)
      have wN : IntKind.i64.wrap ((N : Int) - 1) = (N : Int) - 1 := IntWalk.i64_in _ (by omega)
      go_wp2_with fail
      go_loopg [10] (N : Nat) (fun g v10 wr => g ≤ N ∧ v10 = .int .i64 ((g : Int) - 1) ∧ IntRow wr w1.heap.size (L.set k (downM j N F k g)) ∧ Only No w1 wr)
      case atStart => exact ⟨by omega, rfl, by rw [downM_end]; exact hset, hOs⟩
      case round =>
        clear hrow hO hset hOs hc hf
        obtain ⟨hgN, hv10, hrow, hO⟩ := hrel
        cases gk with
        | zero =>
          obtain rfl : u10 = .int .i64 (-1) := by rw [hv10]; rfl
          clear hv10
          rw [HTG.out k hlt] at hrow
          rw [HS.out _ rfl] at hrow
          go_wp2_with fail
          go_roundg (N - (k + 1))
          case measure => omega
          case rel => exact ⟨k + 1, by omega, by go_num, hrow, hO⟩
        | succ b =>
          obtain rfl : u10 = .int .i64 (b : Int) := by rw [hv10]; congr 1; omega
          clear hv10
          have hbN : (b : Int) < (N : Int) := by omega
          have x1 := (hO.cell (p := ⟨fg, k, none⟩) hfg id).trans (HC.out k hlt)
          have x2 := (hO.cell (p := ⟨fg, b, none⟩) hfg id).trans (HC.out b (by omega))
          have bk := HBDF.out k hlt
          have bb := HBDF.out b (by omega)
          have wb : IntKind.u8.wrap (b : Int) = (b : Int) := IntWalk.u8_in _ (by omega)
          have wbm : IntKind.i64.wrap ((b : Int) - 1) = (b : Int) - 1 := IntWalk.i64_in _ (by omega)
          have HD := Lib.hid (downM_step (j := j) (far := F) (k := k) (b := b) (n := N) (by omega))
          have hsetb := hrow.set k (b : Int)
          rw [List.set_set] at hsetb
          have hfk := Blk.free hrow k
          have hck := hrow.cell (i := k) (by simp; omega)
          have HCK := Lib.hid (Eq.refl ((L.set k (downM j N F k (b + 1))).getD k 0))
          generalize (L.set k (downM j N F k (b + 1))).getD k 0 = old at *
          generalize F.getD k 0 = x at *
          generalize F.getD b 0 = y at *
          have wx : IntKind.i64.wrap (x - 1) = x - 1 := IntWalk.i64_in _ (by omega)
          by_cases hx : 0 < x
          · have dx : decide (0 < x) = true := by simpa using hx
            by_cases hy : y = x - 1
            · have dy : (y == x - 1) = true := by simpa using hy
              cases hj : j b k with
              | true =>
                have HCALL := Lib.hid (show ∀ q, Calls Try.prog 66 #[.int .i64 n, v, .int .u8 (b : Int), .int .u8 (k : Int)] (wr.drewN q) fun e w'' => e = .returned (.bool true) ∧ wr.drewN q = w'' from fun q => by rw [← hj]; exact HH.out (wr.drewN q) (hO1.trans (hO.drewN q)) b k (by omega) (by omega))
                rw [if_pos ⟨hx, hy, by rw [hJ.sym]; exact hj⟩] at HD
                clear hj hx hy
                go_wp2_with fail
                go_quiet ((go_at_call 66; exact quiet_of_eq (HCALL.out _)))
                go_wp2_with fail
                go_roundg b
                case measure => omega
                case rel => exact ⟨by omega, by go_num, by rw [HD.out]; exact hsetb, (hO.drewN _).setCell _ _ (fun h => absurd h (by simp))⟩
              | false =>
                have HCALL := Lib.hid (show ∀ q, Calls Try.prog 66 #[.int .i64 n, v, .int .u8 (b : Int), .int .u8 (k : Int)] (wr.drewN q) fun e w'' => e = .returned (.bool false) ∧ wr.drewN q = w'' from fun q => by rw [← hj]; exact HH.out (wr.drewN q) (hO1.trans (hO.drewN q)) b k (by omega) (by omega))
                rw [if_neg (fun h => by have := h.2.2; rw [hJ.sym, hj] at this; cases this)] at HD
                clear hj hx hy
                go_wp2_with fail
                go_quiet ((go_at_call 66; exact quiet_of_eq (HCALL.out _)))
                go_wp2_with fail
                go_roundg b
                case measure => omega
                case rel => exact ⟨by omega, by go_num, by rw [HD.out]; exact hrow, hO.drewN _⟩
            · have dy : (y == x - 1) = false := by simpa using hy
              rw [if_neg (fun h => hy h.2.1)] at HD
              clear hx hy
              go_wp2_with fail
              go_quiet (fail)
              go_wp2_with fail
              go_roundg b
              case measure => omega
              case rel => exact ⟨by omega, by go_num, by rw [HD.out]; exact hrow, hO.drewN _⟩
          · have dx : decide (0 < x) = false := by simpa using hx
            rw [if_neg (fun h => hx h.1)] at HD
            clear hx
            go_wp2_with fail
            go_quiet (fail)
            go_wp2_with fail
            go_roundg b
            case measure => omega
            case rel => exact ⟨by omega, by go_num, by rw [HD.out]; exact hrow, hO.drewN _⟩
    · have hke : k = N := by omega
      subst hke
      rw [Nat.sub_self, List.replicate_zero, List.append_nil, List.take_of_length_le (by omega)] at hrow
      go_wp2_with fail
      go_ret
      exact ⟨_, rfl, by rw [← HT.out]; exact hrow.row hTL hO1.size (by omega), hO1.trans hO⟩
end Go.Proofs.Ytpegbplppfbomaa
