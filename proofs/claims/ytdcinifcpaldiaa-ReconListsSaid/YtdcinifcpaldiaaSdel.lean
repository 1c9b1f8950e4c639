/- slices.IndexFunc, DeleteFunc at []uint64 with table.Within's closure. (lines of the kit's worked walks at int, turned by a program) No statement is proved here. -/
import Derived.Test.YtdcinifcpaldiaaSrt
import Derived.Shelf.SlicesE.DeleteFunc
namespace Go.Proofs.Ytdcinifcpaldiaa
open Go.Sort Go.RowKit Go.Lib
set_option maxHeartbeats 1000000 in
set_option maxRecDepth 100000 in
theorem sou_IndexFunc (lb : Array Value) (p : Int → Bool) (b off n c : Nat) (zs : List Int) (w : World)
    (hpAt : ∀ (x : Int) (q : Nat), x ∈ zs → Calls Try.prog 43 (#[encU x] ++ lb) (w.drewN q) fun e w' => e = .returned (.bool (p x)) ∧ ∃ q', w' = (w.drewN q).drewN q') (hz : n ≤ zs.length) (hbig : n ≤ 9223372036854775807) (hc : ∀ j, j < zs.length → w.cell? ⟨b, off + j, none⟩ = some (encU zs[j]!)) :
    Calls Try.prog 52 #[.slice (some ⟨b, off, none⟩) n c, .func (.func 43) #[] lb] w fun e w' => e = .returned (.int .i64 (Lib.idxBy (fun _ y => p y) (zs.take n) default)) ∧ ∃ q, w' = w.drewN q := by
  go_enter Try.func52, Try.ntmps52
  go_wp2
  go_loopg [5, 8] n (fun gg _ s8 wr => ∃ kk q : Nat, kk ≤ n ∧ n - kk ≤ gg ∧ s8 = .int .i64 kk ∧ wr = w.drewN q ∧ Aside (∀ j, j < kk → p zs[j]! = false))
  case atStart => exact ⟨0, 0, Nat.zero_le _, by omega, rfl, rfl, fun j hj => absurd hj (Nat.not_lt_zero _)⟩
  case round =>
    obtain ⟨kk, q, hkk, hg, rfl, rfl, A⟩ := hrel
    by_cases hlt : kk < n
    · have hltz : (kk : Int) < (n : Int) := by omega
      have hcell : w.cell? ⟨b, off + kk, none⟩ = some (encU zs[kk]!) := hc kk (by omega)
      clear hc
      generalize hy : zs[kk]! = y at hcell
      have B : Aside (zs[kk]! = y) := hy
      clear hy
      have hcall := fun q => hpAt y q (by rw [← B.out, getElem!_pos zs kk (by omega)]; exact List.getElem_mem _)
      cases hq : p y with
      | true =>
        rw [hq] at hcall
        go_wp2_with (go_at_call 43; refine (hcall _).mono ?_; rintro e w' ⟨rfl, q', rfl⟩)
        go_ret
        refine ⟨?_, _, rfl⟩
        rw [Lib.idxBy_hit (fun _ y => p y) zs n kk default hlt hz (by show p zs[kk]! = true; rw [B.out]; exact hq) A.out]
        rfl
      | false =>
        rw [hq] at hcall
        go_wp2_with (go_at_call 43; refine (hcall _).mono ?_; rintro e w' ⟨rfl, q', rfl⟩)
        go_roundg (n - (kk + 1))
        case measure => omega
        case rel =>
          refine ⟨kk + 1, _, by omega, by omega, by go_num, rfl, (show Aside _ from fun j hj => ?_)⟩
          by_cases e : j = kk
          · subst e
            rw [B.out]; exact hq
          · exact A.out j (by omega)
    · have hltz : ¬ (kk : Int) < (n : Int) := by omega
      have : kk = n := by omega
      subst this
      go_wp2
      go_ret
      refine ⟨?_, q, rfl⟩
      rw [Lib.idxBy_miss (fun _ y => p y) zs kk (0 : Int) A.out]
      rfl
set_option maxHeartbeats 4000000 in
set_option maxRecDepth 1000000 in
theorem sou_DeleteFunc (lb : Array Value) (p : Int → Bool) (blk off cap : Nat) (d : Array Int) (w : World)
    (hpAt : ∀ (x : Int) (q : Nat), x ∈ d.toList → Calls Try.prog 43 (#[encU x] ++ lb) (w.drewN q) fun e w' => e = .returned (.bool (p x)) ∧ ∃ q', w' = (w.drewN q).drewN q')
    (hpo : ∀ (dk : Array Int) (u : Int) (q : Nat), dk.size = d.size → u ∈ d.toList → Calls Try.prog 43 (#[encU u] ++ lb) (putRow encU (Sort.ahead w q) blk off dk) fun e w' => e = .returned (.bool (p u)) ∧ ∃ qq, w' = (putRow encU (Sort.ahead w q) blk off dk).drewN qq)
    (hH : Holds encU w blk off d) (hsz : d.size ≤ 1000000) (hcap : d.size ≤ cap) :
    Calls Try.prog 41 #[.slice (some ⟨blk, off, none⟩) d.size cap, .func (.func 43) #[] lb] w fun e w' => e = .returned (.slice (some ⟨blk, off, none⟩) (d.toList.filter fun x => !p x).length cap) ∧
      ∃ q, w' = putRow encU (Sort.ahead w q) blk off ((d.toList.filter fun x => !p x) ++ List.replicate (d.size - (d.toList.filter fun x => !p x).length) (0 : Int)).toArray := by
  have v23 : ∀ w, (zeroValue 32).run Try.prog w = .ok (encU 0) w := Try.zeroValue32
  have tl : ∀ j, j < d.size → d.toList[j]! = d[j]! := fun j hj => by rw [getElem!_pos d j hj, getElem!_pos d.toList j (by simpa using hj)]; simp
  have hcI : ∀ j, j < d.toList.length → w.cell? ⟨blk, off + j, none⟩ = some (encU d.toList[j]!) := fun j hj => by
    have hj' : j < d.size := by simpa using hj
    rw [(hH j hj').1, tl j hj']
  have hIF := sou_IndexFunc lb p blk off d.size cap d.toList w hpAt (by simp) (by omega) hcI
  rw [show d.toList.take d.size = d.toList from List.take_of_length_le (by simp)] at hIF
  clear hpAt
  obtain ⟨kp, HK⟩ : ∃ kp : Nat → Bool, Hid (kp = fun j => !p d[j]!) := ⟨_, rfl⟩
  have hfil : (d.toList.filter fun x => !p x) = keptUpTo kp d d.size := by rw [HK.out]; exact (keptUpTo_filter (fun x => !p x) d).symm
  rw [hfil]
  rcases idxByFrom_spec (fun _ y => p y) default d.toList 0 with ⟨e1, hall⟩ | ⟨k0, hk0, e1, ht, hall⟩
  · -- no element is struck: the slice comes back as it is
    have e2 : Lib.idxBy (fun _ y => p y) d.toList default = -1 := e1
    rw [e2] at hIF
    have hkeep : ∀ j, j < d.size → kp j = true := fun j hj => by rw [HK.out]; show (!p d[j]!) = true; rw [← tl j hj, hall j (by simpa using hj)]; rfl
    have e3 : keptUpTo kp d d.size = d.toList := by rw [keptUpTo_all kp d _ hkeep, range_map_get]
    have HH : Aside (Holds encU w blk off d) := hH
    clear hH hpo
    go_enter Try.func41, Try.ntmps41
    go_wp2_with (go_at_call 52; refine hIF.mono ?_; rintro e w' ⟨rfl, q0, rfl⟩)
    go_ret
    rw [e3]
    refine ⟨by simp, q0, ?_⟩
    simp only [Array.length_toList, Nat.sub_self, List.replicate_zero, List.append_nil, Array.toArray_toList]
    exact (putRow_self encU (Sort.ahead w q0) blk off d (holds_ahead encU w q0 blk off d HH.out)).symm
  · have hk0' : k0 < d.size := by simpa using hk0
    have e2 : Lib.idxBy (fun _ y => p y) d.toList default = (k0 : Int) := by unfold Lib.idxBy; rw [e1]; simp
    rw [e2] at hIF
    have hkeep : ∀ j, j < k0 → kp j = true := fun j hj => by rw [HK.out]; show (!p d[j]!) = true; rw [← tl j (by omega), hall j hj]; rfl
    have hdrop : kp k0 = false := by rw [HK.out]; show (!p d[k0]!) = false; rw [← tl k0 hk0']; rw [show p d.toList[k0]! = true from ht]; rfl
    have hne1 : ((k0 : Int) == -1) = false := beq_eq_false_iff_ne.2 (by omega)
    have HC : Aside _ := hpo
    have HH : Aside (Holds encU w blk off d) := hH
    clear hpo hH hall ht e1 e2 tl
    go_enter Try.func41, Try.ntmps41
    go_wp2_with (go_at_call 52; refine hIF.mono ?_; rintro e w' ⟨rfl, q0, rfl⟩)
    go_loopg [5, 6, 7] d.size (fun gg s5 s6 _ wr => ∃ (i j q : Nat) (dk : Array Int), s5 = .int .i64 i ∧ s6 = .int .i64 j ∧ j ≤ d.size ∧ d.size - j ≤ gg ∧ wr = putRow encU (Sort.ahead w q) blk off dk ∧ Aside (KeptInv kp d j i dk))
    case atStart => exact ⟨k0, k0 + 1, q0, d, rfl, by go_num, by omega, by omega, (putRow_self encU (Sort.ahead w q0) blk off d (holds_ahead encU w q0 blk off d HH.out)).symm, KeptInv.start hkeep hdrop⟩
    case round =>
      obtain ⟨i, j, q, dk, rfl, rfl, hjd, hgg, hwr, I2⟩ := hrel
      have hI := I2.out
      have hij := hI.lt
      have hds := hI.size
      have hHk : Holds encU wr blk off dk := by rw [hwr]; exact holds_putRow encU _ blk off d dk (holds_ahead encU w q blk off d HH.out) hds
      have W2 : Aside (wr = putRow encU (Sort.ahead w q) blk off dk) := hwr
      by_cases hlt : j < d.size
      · have hltz : (j : Int) < (d.size : Int) := by omega
        obtain ⟨cj, _⟩ := hHk j (by omega)
        obtain ⟨ci, fi⟩ := hHk i (by omega)
        rw [hI.high j (by omega)] at cj
        have hcall := HC.out dk d[j]! q hds (by rw [getElem!_pos d j (by omega)]; exact Array.getElem_mem_toList _)
        rw [← hwr] at hcall
        clear hHk hI hwr
        generalize hu : d[j]! = u at cj hcall
        generalize dk[i]! = old at ci
        have C : Aside (d[j]! = u) := hu
        clear hu
        cases hq : p u with
        | false =>
          rw [hq] at hcall
          go_wp2_with (go_at_call 43; refine hcall.mono ?_; rintro e w' ⟨rfl, qq, rfl⟩)
          go_roundg (d.size - (j + 1))
          case measure => omega
          case rel =>
            refine ⟨i + 1, j + 1, q + qq, dk.setIfInBounds i u, by go_num, by go_num, by omega, Nat.le_refl _, ?_, (show Aside _ from ?_)⟩
            · rw [W2.out, show (putRow encU (Sort.ahead w q) blk off dk).drewN qq = putRow encU (Sort.ahead w (q + qq)) blk off dk from putRow_drewN _ _ _ _ _ _ _, putRow_set encU _ blk off dk i u (by omega)]
            · have := I2.out.keep hlt (by rw [HK.out]; show (!p d[j]!) = true; rw [C.out, hq]; rfl)
              rwa [C.out] at this
        | true =>
          rw [hq] at hcall
          go_wp2_with (go_at_call 43; refine hcall.mono ?_; rintro e w' ⟨rfl, qq, rfl⟩)
          go_roundg (d.size - (j + 1))
          case measure => omega
          case rel => exact ⟨i, j + 1, q + qq, dk, rfl, by go_num, by omega, Nat.le_refl _, by rw [W2.out]; exact putRow_drewN _ _ _ _ _ _ _, I2.out.skip (by rw [HK.out]; show (!p d[j]!) = false; rw [C.out, hq]; rfl)⟩
      · obtain rfl : j = d.size := by omega
        have hltz : ¬ (d.size : Int) < (d.size : Int) := by omega
        have hcl : ∀ ty, (Builtin.clear_ #[22] ty #[.slice (some ⟨blk, off + i, none⟩) (d.size - i) (cap - i)]).run Try.prog wr = .ok (.tuple #[]) (wr.setCells blk (off + i) (List.replicate (d.size - i) (encU 0))) :=
          fun ty => Lib.run_clear_slice wr _ _ ty _ Try.underlying22 v23 rfl rfl blk (off + i) _ _ (by omega) (fun t ht => by rw [show off + i + t = off + (i + t) by omega, (hHk (i + t) (by omega)).1]; rfl) (fun t ht => by rw [show off + i + t = off + (i + t) by omega]; exact (hHk (i + t) (by omega)).2)
        clear hHk hI hwr
        go_wp2
        go_ret
        have hI := I2.out
        refine ⟨by rw [hI.len]; rfl, q, ?_⟩
        rw [hI.len, ← hI.done (0 : Int), ← putRow_setCells encU _ blk off _ dk i (by simp; omega), ← W2.out, List.map_replicate]
end Go.Proofs.Ytdcinifcpaldiaa
