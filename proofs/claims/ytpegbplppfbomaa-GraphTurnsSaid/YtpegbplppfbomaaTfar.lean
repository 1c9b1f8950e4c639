/- Shorter ways, found again and again, are the least ones; and each one's next on the way, in plain Lean. No statement is proved here. -/
import Derived.Test.YtpegbplppfbomaaGwaysA
namespace Go.Proofs.Ytpegbplppfbomaa

def relax (j : Nat → Nat → Bool) (b : Nat) (out : List Int) (c : Nat) : List Int :=
  if 0 ≤ out.getD c 0 ∧ j b c = true ∧ (out.getD b 0 < 0 ∨ out.getD c 0 + 1 < out.getD b 0) then out.set b (out.getD c 0 + 1) else out
def relaxB (j : Nat → Nat → Bool) (n : Nat) (out : List Int) (b : Nat) : List Int := (List.range n).foldl (relax j b) out
def roundR (j : Nat → Nat → Bool) (n : Nat) (out : List Int) : List Int := (List.range n).foldl (relaxB j n) out
def startR (n a : Nat) : List Int := (List.range n).map fun i => if i = a then 0 else -1
def farR (j : Nat → Nat → Bool) (n a : Nat) : Nat → List Int
  | 0 => startR n a
  | r + 1 => roundR j n (farR j n a r)

/-- out' is no further than out. -/
def Nearer (n : Nat) (out out' : List Int) : Prop := ∀ b, b < n → 0 ≤ out.getD b 0 → 0 ≤ out'.getD b 0 ∧ out'.getD b 0 ≤ out.getD b 0
theorem Nearer.refl (n : Nat) (out : List Int) : Nearer n out out := fun _ _ h => ⟨h, Int.le_refl _⟩
theorem Nearer.trans {n : Nat} {a b c : List Int} (h : Nearer n a b) (k : Nearer n b c) : Nearer n a c := fun x hx h0 => by
  have h1 := h x hx h0
  have h2 := k x hx h1.1
  omega
theorem set_getD {l : List Int} {i b : Nat} {x : Int} (hi : i < l.length) : (l.set i x).getD b 0 = if b = i then x else l.getD b 0 := by
  rw [List.getD_eq_getElem?_getD, List.getElem?_set]
  by_cases e : i = b
  · subst e; simp [hi]
  · rw [if_neg e, if_neg (fun h => e h.symm), List.getD_eq_getElem?_getD]

structure SoundE (j : Nat → Nat → Bool) (n a : Nat) (out : List Int) : Prop where
  len : out.length = n
  val : ∀ b, b < n → out.getD b 0 = -1 ∨ (0 ≤ out.getD b 0 ∧ Way j a (out.getD b 0).toNat b)
theorem relax_ok {j : Nat → Nat → Bool} {n a b c : Nat} {out : List Int} (J : Joins j n) (h : SoundE j n a out) (hb : b < n) (hc : c < n) :
    SoundE j n a (relax j b out c) ∧ Nearer n out (relax j b out c) ∧ (0 ≤ out.getD c 0 → j b c = true → 0 ≤ (relax j b out c).getD b 0 ∧ (relax j b out c).getD b 0 ≤ out.getD c 0 + 1) := by
  unfold relax
  split
  · rename_i hx
    obtain ⟨h1, h2, h3⟩ := hx
    have hg : ∀ x, (out.set b (out.getD c 0 + 1)).getD x 0 = if x = b then out.getD c 0 + 1 else out.getD x 0 := fun x => set_getD (by rw [h.len]; exact hb)
    refine ⟨⟨by simpa using h.len, fun x hxn => ?_⟩, fun x hxn h0 => ?_, fun _ _ => ?_⟩
    · rw [hg]
      by_cases e : x = b
      · rw [if_pos e]
        right
        refine ⟨by omega, ?_⟩
        rcases h.val c hc with hv | ⟨_, hw⟩
        · omega
        · have : (out.getD c 0 + 1).toNat = (out.getD c 0).toNat + 1 := by omega
          rw [this, e]
          exact ⟨c, hw, by rw [J.sym]; exact h2⟩
      · rw [if_neg e]; exact h.val x hxn
    · rw [hg]
      by_cases e : x = b
      · rw [if_pos e]; subst e; omega
      · rw [if_neg e]; omega
    · rw [hg, if_pos rfl]; omega
  · rename_i hx
    refine ⟨h, Nearer.refl _ _, fun h1 h2 => ?_⟩
    rcases h.val b hb with hv | ⟨h0, _⟩
    · exact absurd ⟨h1, h2, .inl (by omega)⟩ hx
    · refine ⟨h0, ?_⟩
      rcases Int.lt_or_le (out.getD c 0 + 1) (out.getD b 0) with hl | hl
      · exact absurd ⟨h1, h2, .inr hl⟩ hx
      · exact hl
theorem foldR_ok {j : Nat → Nat → Bool} {n a b : Nat} (J : Joins j n) (hb : b < n) (cs : List Nat) : ∀ (out : List Int), (∀ c ∈ cs, c < n) → SoundE j n a out →
    SoundE j n a (cs.foldl (relax j b) out) ∧ Nearer n out (cs.foldl (relax j b) out) ∧ (∀ c ∈ cs, 0 ≤ out.getD c 0 → j b c = true → 0 ≤ (cs.foldl (relax j b) out).getD b 0 ∧ (cs.foldl (relax j b) out).getD b 0 ≤ out.getD c 0 + 1) := by
  induction cs with
  | nil => intro out _ h; exact ⟨h, Nearer.refl _ _, by simp⟩
  | cons c cs ih =>
    intro out hcs h
    have hc := hcs c (by simp)
    obtain ⟨r1, r2, r3⟩ := relax_ok J h hb hc
    obtain ⟨i1, i2, i3⟩ := ih _ (fun x hx => hcs x (by simp [hx])) r1
    refine ⟨i1, r2.trans i2, fun x hx h0 hj => ?_⟩
    rcases List.mem_cons.1 hx with rfl | hx
    · have q := r3 h0 hj
      have q2 := i2 b hb q.1
      simp only [List.foldl_cons]
      omega
    · have q := r2 x (hcs x (by simp [hx])) h0
      have q2 := i3 x hx q.1 hj
      simp only [List.foldl_cons]
      omega
theorem foldRB_ok {j : Nat → Nat → Bool} {n a : Nat} (J : Joins j n) (bs : List Nat) : ∀ (out : List Int), (∀ b ∈ bs, b < n) → SoundE j n a out →
    SoundE j n a (bs.foldl (relaxB j n) out) ∧ Nearer n out (bs.foldl (relaxB j n) out) ∧
      (∀ b ∈ bs, ∀ c, c < n → 0 ≤ out.getD c 0 → j b c = true → 0 ≤ (bs.foldl (relaxB j n) out).getD b 0 ∧ (bs.foldl (relaxB j n) out).getD b 0 ≤ out.getD c 0 + 1) := by
  induction bs with
  | nil => intro out _ h; exact ⟨h, Nearer.refl _ _, by simp⟩
  | cons b bs ih =>
    intro out hbs h
    have hb := hbs b (by simp)
    obtain ⟨r1, r2, r3⟩ := foldR_ok J hb (List.range n) out (fun c hc => List.mem_range.1 hc) h
    obtain ⟨i1, i2, i3⟩ := ih _ (fun x hx => hbs x (by simp [hx])) r1
    refine ⟨i1, r2.trans i2, fun x hx c hc h0 hj => ?_⟩
    rcases List.mem_cons.1 hx with rfl | hx
    · have q := r3 c (List.mem_range.2 hc) h0 hj
      have q2 := i2 x hb q.1
      simp only [List.foldl_cons]
      exact ⟨q2.1, Int.le_trans q2.2 q.2⟩
    · have q := r2 c hc h0
      have q2 := i3 x hx c hc q.1 hj
      simp only [List.foldl_cons]
      exact ⟨q2.1, Int.le_trans q2.2 (Int.add_le_add_right q.2 1)⟩
theorem startR_get {n a b : Nat} (hb : b < n) : (startR n a).getD b 0 = if b = a then 0 else -1 := by
  unfold startR
  rw [List.getD_eq_getElem?_getD, List.getElem?_map, List.getElem?_range hb]
  rfl
theorem farR_ok {j : Nat → Nat → Bool} {n a : Nat} (J : Joins j n) (r : Nat) : SoundE j n a (farR j n a r) ∧ ∀ b, b < n → ∀ e, e ≤ r → Dist j a b e → 0 ≤ (farR j n a r).getD b 0 ∧ (farR j n a r).getD b 0 ≤ e := by
  induction r with
  | zero =>
    refine ⟨⟨by simp [farR, startR], fun b hb => ?_⟩, fun b hb e he hD => ?_⟩
    · show (startR n a).getD b 0 = -1 ∨ 0 ≤ (startR n a).getD b 0 ∧ Way j a ((startR n a).getD b 0).toNat b
      rw [startR_get hb]
      by_cases e : b = a
      · rw [if_pos e]; exact .inr ⟨by omega, by show Way j a 0 b; exact e⟩
      · rw [if_neg e]; exact .inl rfl
    · obtain rfl : e = 0 := by omega
      show 0 ≤ (startR n a).getD b 0 ∧ (startR n a).getD b 0 ≤ _
      rw [startR_get hb, if_pos (show b = a from hD.1)]
      omega
  | succ r ih =>
    obtain ⟨r1, r2, r3⟩ := foldRB_ok J (List.range n) (farR j n a r) (fun b hb => List.mem_range.1 hb) ih.1
    refine ⟨r1, fun b hb e he hD => ?_⟩
    by_cases hr : e ≤ r
    · have q := ih.2 b hb e hr hD
      have q2 := r2 b hb q.1
      exact ⟨q2.1, Int.le_trans q2.2 q.2⟩
    · obtain rfl : e = r + 1 := by omega
      obtain ⟨c, hc, hj⟩ := hD.pred
      have hcn := (J.lt _ _ hj).1
      have q := ih.2 c hcn r (Nat.le_refl _) hc
      have q2 := r3 b (List.mem_range.2 hb) c hcn q.1 (by rw [J.sym]; exact hj)
      exact ⟨q2.1, Int.le_trans q2.2 (by have := q.2; omega)⟩
theorem list_ext_getD {l l' : List Int} {n : Nat} (h1 : l.length = n) (h2 : l'.length = n) (h : ∀ b, b < n → l.getD b 0 = l'.getD b 0) : l = l' := by
  apply List.ext_getElem (by omega)
  intro i q1 q2
  have := h i (by omega)
  rw [List.getD_eq_getElem?_getD, List.getD_eq_getElem?_getD, List.getElem?_eq_getElem q1, List.getElem?_eq_getElem q2] at this
  exact this
theorem farR_far {j : Nat → Nat → Bool} {n a : Nat} (J : Joins j n) (hn : n ≤ 16) : farR j n a 16 = farM j n a := by
  obtain ⟨h1, h2⟩ := farR_ok (a := a) J 16
  refine list_ext_getD h1.len (farM_len j n a) fun b hb => ?_
  by_cases ha : a < n
  · rcases F_cases J ha hb with ⟨hf, hno⟩ | ⟨e, he, hD, hf⟩
    · rw [show (farM j n a).getD b 0 = -1 from hf]
      rcases h1.val b hb with hv | ⟨_, hw⟩
      · exact hv
      · exact absurd hw (hno _)
    · rw [show (farM j n a).getD b 0 = (e : Int) from hf]
      have q := h2 b hb e (by omega) hD
      rcases h1.val b hb with hv | ⟨h0, hw⟩
      · omega
      · rcases Nat.lt_or_ge ((farR j n a 16).getD b 0).toNat e with hl | hl
        · exact absurd hw (hD.2 _ hl)
        · omega
  · have hno : ∀ e b, b < n → ¬ Way j a e b := by
      intro e
      induction e with
      | zero => intro b hb hw; exact ha (by rw [← show b = a from hw]; exact hb)
      | succ e ih => rintro b hb ⟨c, hw, hj⟩; exact ih c (J.lt _ _ hj).1 hw
    rcases h1.val b hb with hv | ⟨_, hw⟩
    · rw [hv]
      unfold farM
      rw [if_neg ha]
      simp [hb]
    · exact absurd hw (hno _ b hb)

/-- The first one near i that is one step nearer. -/
def upTo (j : Nat → Nat → Bool) (far : List Int) (i : Nat) : List Nat → Int
  | [] => -1
  | b :: l => if far.getD b 0 = far.getD i 0 - 1 then (b : Int) else upTo j far i l
def treeM (j : Nat → Nat → Bool) (n a : Nat) : List Int := (List.range n).map fun i => if (farM j n a).getD i 0 ≤ 0 then -1 else upTo j (farM j n a) i (nears j i n)
end Go.Proofs.Ytpegbplppfbomaa
