/- The document's words that are taken one by one. No statement is proved here. -/
import Derived.Test.YtlilhdkaaendlaaTake
namespace Go.Proofs.Ytlilhdkaaendlaa
open Go.RowKit

/-- The document's struct of words: what is left, and the first error. -/
def FAt (w : World) (b rb : Nat) (e : Int) (l : List ByteArray) : Prop := ∃ v, Blk w b #[v, .int .i64 e] 85 ∧ Sees w v (txs l) ∧ (∀ k, v.ownBlock = some k → k = rb) ∧ rb ≠ b ∧ rb < w.heap.size
theorem FAt.only {w w' : World} {b rb : Nat} {e : Int} {l : List ByteArray} (h : FAt w b rb e l) (ho : Only No w w') : FAt w' b rb e l := by
  obtain ⟨v, hb, hs, hn, hr, hl⟩ := h
  exact ⟨v, ho.blk hb (fun h => h), hs.no ho, hn, hr, Nat.lt_of_lt_of_le hl ho.size⟩
set_option maxRecDepth 100000 in
theorem rnext_c (b rb : Nat) (e : Int) (p : ByteArray) (r : List ByteArray) (w : World) (h : FAt w b rb e (p :: r)) :
    Calls Try.prog 37 #[.pointer (some ⟨b, 0, none⟩)] w fun x w' => x = .returned (.string p) ∧ FAt w' b rb e r ∧ Only (· = b) w w' := by
  obtain ⟨v, hb, hs, hn, hne, hrl⟩ := h
  obtain ⟨a, cap, rfl, hcap, hf⟩ := hs.form
  obtain ⟨rb', o, rfl, hrb, hcell⟩ := hf (by simp [txs])
  have hrr : rb' = rb := hn rb' rfl
  subst hrr
  have hlen : (txs (p :: r)).length = r.length + 1 := by simp [txs]
  rw [hlen] at hb hcap
  have hc0 := hcell 0 (.string p) (by simp [txs])
  rw [Nat.add_zero] at hc0
  obtain ⟨a', hsl, ha', ha2⟩ := cut1 rb' o r.length cap hcap
  have c0 := hb.cell 0 _ rfl
  have f0 := hb.free 0
  have hfin : FAt (w.setCell ⟨b, 0, none⟩ (.slice a' r.length (cap - 1))) b rb' e r := by
    refine ⟨.slice a' r.length (cap - 1), hb.set 0 _, ⟨a', cap - 1, by simp [txs], by simp [txs]; omega, fun hp => ?_⟩, ?_⟩
    · simp only [txs, List.length_map] at hp
      refine ⟨rb', o + 1, ha' hp, by simpa using hrb, fun j u hu => ?_⟩
      rw [World.cell?_setCell_other _ _ _ _ (by simp)]
      have := hcell (j + 1) u (by simpa [txs] using hu)
      rwa [show o + (j + 1) = o + 1 + j by omega] at this
    · refine ⟨fun k hk => ?_, hne, by simpa using hrl⟩
      rcases ha2 with h | h <;> rw [h] at hk <;> simp [Value.ownBlock] at hk <;> exact hk.symm
  have hO : Only (· = b) w (w.setCell ⟨b, 0, none⟩ (.slice a' r.length (cap - 1))) := (Only.refl _ _).set1 _ _
  have HF := Lib.hid hfin
  have HO := Lib.hid hO
  clear hfin hO ha' ha2 hcell hs hb hf hn hrl
  rw [show ((r.length + 1 : Nat)) = r.length + 1 from rfl] at *
  go_enter Try.func37, Try.ntmps37
  go_wp2_with fail
  go_ret
  exact ⟨rfl, HF.out, HO.out⟩

theorem FAt.lt {w : World} {b rb : Nat} {e : Int} {l : List ByteArray} (h : FAt w b rb e l) : b < w.heap.size ∧ rb < w.heap.size ∧ rb ≠ b := by
  obtain ⟨v, hb, -, -, hr, hl⟩ := h
  exact ⟨hb.lt, hl, hr⟩
/-- A row of a function's own, written whole: nothing of the words turns. -/
theorem FAt.put {w : World} {b rb : Nat} {e : Int} {l : List ByteArray} (h : FAt w b rb e l) {g : Nat} (hb : g ≠ b) (hr : g ≠ rb) (cs : Array Value) : FAt (w.setRow g cs) b rb e l := by
  obtain ⟨v, q1, q2, q3, q4, q5⟩ := h
  have hs : Only (· = g) w (w.setRow g cs) := only_setRow (Only.refl _ _) _ _ (fun _ => rfl)
  exact ⟨v, hs.blk q1 (fun e => hb e.symm), q2.only hs (fun k hk e => hr (e.symm.trans (q3 k hk))), q3, q4, Nat.lt_of_lt_of_le q5 hs.size⟩
theorem FAt.keep {w : World} {b rb : Nat} {e : Int} {l : List ByteArray} (h : FAt w b rb e l) (f : Int) : FAt (w.setCell ⟨b, 1, none⟩ (.int .i64 f)) b rb f l := by
  obtain ⟨v, hb, hs, hn, hr, hl⟩ := h
  exact ⟨v, hb.set 1 _, hs.only ((Only.refl (· = b) w).set1 1 _) (fun k hk e => hr ((hn k hk).symm.trans e)), hn, hr, by simpa using hl⟩
set_option maxRecDepth 100000 in
theorem rnum_c (b rb : Nat) (e : Int) (p : ByteArray) (r : List ByteArray) (most : Int) (w : World) (h : FAt w b rb e (p :: r)) (hs : p.size ≤ 1000000000) :
    Calls Try.prog 33 #[.pointer (some ⟨b, 0, none⟩), .int .i64 most] w fun x w' => x = .returned (.int .i64 (numE most p).1) ∧ FAt w' b rb (keepE e (numE most p).2) r ∧ Only (· = b) w w' := by
  have HN := Lib.hid (rnext_c b rb e p r w h)
  unfold numE
  obtain ⟨n, f, hnf⟩ : ∃ n f, (n, f) = parseM p.data.toList 0 most := ⟨_, _, rfl⟩
  have HP := fun W : World => Lib.hid (rparse_c p 0 most W hs)
  rw [← hnf] at HP ⊢
  clear hnf h
  by_cases he : e = 0
  · have hk : keepE e f = f := if_pos he
    rw [hk]
    subst he
    clear hk
    go_enter Try.func33, Try.ntmps33
    go_wp2_with fail
    refine HN.out.mono ?_
    rintro x w1 ⟨rfl, hW, hO⟩
    have hfin := hW.keep f
    obtain ⟨v, hb, -⟩ := hW
    have c1 := hb.cell 1 _ rfl
    have f1 := hb.free 1
    go_wp2_with fail
    refine (HP _).out.mono ?_
    rintro x w2 ⟨rfl, rfl⟩
    go_wp2_with fail
    go_ret
    exact ⟨rfl, hfin, hO.set1 1 _⟩
  · have hk : keepE e f = e := if_neg he
    rw [hk]
    have hq : (e == 0) = false := beq_eq_false_iff_ne.2 he
    clear hk
    go_enter Try.func33, Try.ntmps33
    go_wp2_with fail
    refine HN.out.mono ?_
    rintro x w1 ⟨rfl, hW, hO⟩
    obtain ⟨v, hb, hrest⟩ := id hW
    have c1 := hb.cell 1 _ rfl
    go_wp2_with fail
    refine (HP _).out.mono ?_
    rintro x w2 ⟨rfl, rfl⟩
    go_wp2_with fail
    go_ret
    exact ⟨rfl, hW, hO⟩
end Go.Proofs.Ytlilhdkaaendlaa
