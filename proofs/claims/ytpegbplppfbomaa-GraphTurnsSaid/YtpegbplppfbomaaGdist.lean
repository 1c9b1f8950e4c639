/- What the waves tell: the least number of steps, in plain Lean. No statement is proved here. -/
import Derived.Test.YtpegbplppfbomaaGparts
namespace Go.Proofs.Ytpegbplppfbomaa

/-- There is a way of e steps from a to b. -/
def Way (j : Nat → Nat → Bool) (a : Nat) : Nat → Nat → Prop
  | 0, b => b = a
  | e + 1, c => ∃ b, Way j a e b ∧ j b c = true
structure Joins (j : Nat → Nat → Bool) (n : Nat) : Prop where
  sym : ∀ a b, j a b = j b a
  irr : ∀ a, j a a = false
  lt : ∀ a b, j a b = true → a < n ∧ b < n
theorem Way.trans {j : Nat → Nat → Bool} {a b c : Nat} {e f : Nat} (h : Way j a e b) (k : Way j b f c) : Way j a (e + f) c := by
  induction f generalizing c with
  | zero => rw [show c = b from k]; exact h
  | succ f ih =>
    obtain ⟨d, h1, h2⟩ := k
    exact ⟨d, ih h1, h2⟩
theorem Way.back {j : Nat → Nat → Bool} {n : Nat} (J : Joins j n) {a b : Nat} {e : Nat} (h : Way j a e b) : Way j b e a := by
  induction e generalizing b with
  | zero => exact (show b = a from h).symm
  | succ e ih =>
    obtain ⟨d, h1, h2⟩ := h
    have h3 : Way j b 1 d := ⟨b, rfl, by rw [J.sym]; exact h2⟩
    have := h3.trans (ih h1)
    rwa [Nat.add_comm] at this
def Dist (j : Nat → Nat → Bool) (a b e : Nat) : Prop := Way j a e b ∧ ∀ e', e' < e → ¬ Way j a e' b
theorem Dist.uniq {j : Nat → Nat → Bool} {a b e f : Nat} (h : Dist j a b e) (k : Dist j a b f) : e = f := by
  rcases Nat.lt_trichotomy e f with hl | hl | hl
  · exact absurd h.1 (k.2 e hl)
  · exact hl
  · exact absurd k.1 (h.2 f hl)
theorem way_dist {j : Nat → Nat → Bool} {a b : Nat} : ∀ e, Way j a e b → ∃ f, f ≤ e ∧ Dist j a b f := by
  intro e
  induction e using Nat.strongRecOn with
  | ind e ih =>
    intro h
    by_cases hx : ∃ e', e' < e ∧ Way j a e' b
    · obtain ⟨e', h1, h2⟩ := hx
      obtain ⟨f, h3, h4⟩ := ih e' h1 h2
      exact ⟨f, by omega, h4⟩
    · exact ⟨e, Nat.le_refl _, h, fun e' h1 h2 => hx ⟨e', h1, h2⟩⟩
theorem Dist.pred {j : Nat → Nat → Bool} {a c e : Nat} (h : Dist j a c (e + 1)) : ∃ b, Dist j a b e ∧ j b c = true := by
  obtain ⟨b, h1, h2⟩ := h.1
  exact ⟨b, ⟨h1, fun e' he hw => h.2 (e' + 1) (by omega) ⟨b, hw, h2⟩⟩, h2⟩

theorem foldC_spec {d : Int} (hd : 0 ≤ d) (L : List Nat) : ∀ (out : List Int) (next : List Nat), (∀ c ∈ L, c < out.length) →
    (∀ b, b < out.length → (L.foldl (stepC d) (out, next)).1.getD b 0 = if out.getD b 0 < 0 ∧ b ∈ L then d else out.getD b 0) ∧
    (∀ b, b ∈ (L.foldl (stepC d) (out, next)).2 ↔ b ∈ next ∨ (out.getD b 0 < 0 ∧ b ∈ L)) := by
  induction L with
  | nil => intro out next _; simp
  | cons c L ih =>
    intro out next hL
    have hc := hL c (by simp)
    simp only [List.foldl_cons]
    by_cases h : out.getD c 0 < 0
    · have hs : stepC d (out, next) c = (out.set c d, next ++ [c]) := by unfold stepC; rw [if_pos h]
      rw [hs]
      obtain ⟨i1, i2⟩ := ih (out.set c d) (next ++ [c]) (fun x hx => by rw [List.length_set]; exact hL x (by simp [hx]))
      have hg : ∀ b, b < out.length → (out.set c d).getD b 0 = if b = c then d else out.getD b 0 := by
        intro b hb
        rw [List.getD_eq_getElem?_getD, List.getElem?_set]
        by_cases e : c = b
        · subst e; simp [hc]
        · rw [if_neg e, if_neg (fun h => e h.symm), List.getD_eq_getElem?_getD]
      refine ⟨fun b hb => ?_, fun b => ?_⟩
      · rw [i1 b (by rw [List.length_set]; exact hb), hg b hb]
        by_cases e : b = c
        · subst e
          rw [if_pos rfl, if_neg (fun hx => by omega), if_pos ⟨h, by simp⟩]
        · rw [if_neg e]
          simp only [List.mem_cons, e, false_or]
      · rw [i2 b]
        by_cases hb : b < out.length
        · rw [hg b hb]
          by_cases e : b = c
          · subst e
            exact ⟨fun _ => .inr ⟨h, by simp⟩, fun _ => .inl (by simp)⟩
          · simp [e]
        · have hbc : b ≠ c := fun e => hb (by omega)
          have hbL : b ∉ L := fun hx => hb (hL b (by simp [hx]))
          simp [hbc, hbL]
    · have hs : stepC d (out, next) c = (out, next) := by unfold stepC; rw [if_neg h]
      rw [hs]
      obtain ⟨i1, i2⟩ := ih out next (fun x hx => hL x (by simp [hx]))
      refine ⟨fun b hb => ?_, fun b => ?_⟩
      · rw [i1 b hb]
        by_cases e : b = c
        · subst e; rw [if_neg (fun hx => h hx.1), if_neg (fun hx => h hx.1)]
        · simp only [List.mem_cons, e, false_or]
      · rw [i2 b]
        by_cases e : b = c
        · subst e
          exact ⟨fun x => x.imp id (fun y => absurd y.1 h), fun x => x.imp id (fun y => absurd y.1 h)⟩
        · simp [e]
theorem foldB_flat (j : Nat → Nat → Bool) (n : Nat) (d : Int) (wave : List Nat) (st : List Int × List Nat) : wave.foldl (stepB j n d) st = (wave.flatMap fun b => nears j b n).foldl (stepC d) st := by
  induction wave generalizing st with
  | nil => rfl
  | cons b wave ih => rw [List.foldl_cons, ih, List.flatMap_cons, List.foldl_append]; rfl
theorem mem_nears {j : Nat → Nat → Bool} {a n x : Nat} : x ∈ nears j a n ↔ x < n ∧ j a x = true := by unfold nears; simp

/-- What holds ahead of wave d. -/
structure BfsInv (j : Nat → Nat → Bool) (n a d : Nat) (out : List Int) (wave : List Nat) : Prop where
  len : out.length = n
  set : ∀ b, b < n → ∀ e, e < d → Dist j a b e → out.getD b 0 = (e : Int)
  val : ∀ b, b < n → out.getD b 0 = -1 ∨ ∃ e, e < d ∧ Dist j a b e ∧ out.getD b 0 = (e : Int)
  wave : ∀ b, b ∈ wave ↔ b < n ∧ Dist j a b (d - 1)
theorem BfsInv.next {j : Nat → Nat → Bool} {n a d : Nat} (J : Joins j n) {out : List Int} {wave : List Nat} (h : BfsInv j n a d out wave) (hd : 1 ≤ d) :
    BfsInv j n a (d + 1) (waveM j n d out wave).1 (waveM j n d out wave).2 := by
  have hL : ∀ c ∈ wave.flatMap fun b => nears j b n, c < out.length := by
    intro c hc
    obtain ⟨b, -, h2⟩ := List.mem_flatMap.1 hc
    rw [h.len]; exact (mem_nears.1 h2).1
  obtain ⟨s1, s2⟩ := foldC_spec (d := (d : Int)) (by omega) (wave.flatMap fun b => nears j b n) out [] hL
  rw [← foldB_flat] at s1 s2
  have s1 : ∀ b, b < n → (waveM j n d out wave).1.getD b 0 = if out.getD b 0 < 0 ∧ b ∈ (wave.flatMap fun b => nears j b n) then (d : Int) else out.getD b 0 := fun b hb => s1 b (by rw [h.len]; exact hb)
  have hkey : ∀ b, b < n → (Dist j a b d ↔ out.getD b 0 < 0 ∧ b ∈ (wave.flatMap fun b => nears j b n)) := by
    intro b hb
    constructor
    · intro hD
      obtain ⟨d', rfl⟩ : ∃ d', d = d' + 1 := ⟨d - 1, by omega⟩
      obtain ⟨c, h1, h2⟩ := hD.pred
      refine ⟨?_, List.mem_flatMap.2 ⟨c, (h.wave c).2 ⟨(J.lt c b h2).1, h1⟩, mem_nears.2 ⟨hb, h2⟩⟩⟩
      rcases h.val b hb with hv | ⟨e, he, hDe, hv⟩
      · omega
      · have := hDe.uniq hD; omega
    · rintro ⟨h1, h2⟩
      obtain ⟨c, h3, h4⟩ := List.mem_flatMap.1 h2
      obtain ⟨d', rfl⟩ : ∃ d', d = d' + 1 := ⟨d - 1, by omega⟩
      have hc := ((h.wave c).1 h3).2
      refine ⟨⟨c, hc.1, (mem_nears.1 h4).2⟩, fun e' he hw => ?_⟩
      obtain ⟨f, hf, hDf⟩ := way_dist e' hw
      have := h.set b hb f (by omega) hDf
      omega
  have hlen : (waveM j n d out wave).1.length = n := (waveM_ok h.len (by omega)).len
  refine ⟨hlen, fun b hb e he hD => ?_, fun b hb => ?_, fun b => ?_⟩
  · rw [s1 b hb]
    by_cases hed : e = d
    · subst hed
      rw [if_pos ((hkey b hb).1 hD)]
    · have := h.set b hb e (by omega) hD
      rw [if_neg (fun hx => by omega), this]
  · rw [s1 b hb]
    by_cases hx : out.getD b 0 < 0 ∧ b ∈ (wave.flatMap fun b => nears j b n)
    · rw [if_pos hx]
      exact .inr ⟨d, by omega, (hkey b hb).2 hx, rfl⟩
    · rw [if_neg hx]
      rcases h.val b hb with hv | ⟨e, he, hDe, hv⟩
      · exact .inl hv
      · exact .inr ⟨e, by omega, hDe, hv⟩
  · have := s2 b
    simp only [List.not_mem_nil, false_or] at this
    rw [show (waveM j n d out wave).2 = (wave.foldl (stepB j n d) (out, [])).2 from rfl, this]
    constructor
    · intro hx
      have hb : b < n := by rw [← h.len]; exact hL b hx.2
      exact ⟨hb, (hkey b hb).2 hx⟩
    · rintro ⟨hb, hD⟩
      exact (hkey b hb).1 hD
/-- What Far tells of each one. -/
structure FarIs (j : Nat → Nat → Bool) (n a : Nat) (out : List Int) : Prop where
  len : out.length = n
  val : ∀ b, b < n → (out.getD b 0 = -1 ∧ ∀ e, ¬ Way j a e b) ∨ ∃ e : Nat, e ≤ n ∧ Dist j a b e ∧ out.getD b 0 = (e : Int)
theorem bfs_is {j : Nat → Nat → Bool} {n a : Nat} (J : Joins j n) (k : Nat) : ∀ (d : Nat) (out : List Int) (wave : List Nat), BfsInv j n a d out wave → 1 ≤ d → d + negs out ≤ n → negs out < k → FarIs j n a (bfs j n k d out wave) := by
  induction k with
  | zero => intro d out wave _ _ _ h; omega
  | succ k ih =>
    intro d out wave h hd hdn hk
    have hn := h.next J hd
    have hok := waveM_ok (j := j) (wave := wave) h.len (show (0 : Int) ≤ (d : Int) by omega)
    have hsum := hok.sum
    unfold bfs
    split
    · rename_i he
      refine ⟨hok.len, fun b hb => ?_⟩
      have hnone : ∀ e, d ≤ e → ∀ c, ¬ Dist j a c e := by
        intro e he2
        induction e with
        | zero => omega
        | succ e ihe =>
          intro c hD
          by_cases hde : d = e + 1
          · obtain ⟨b', _, hj⟩ := hD.pred
            have := (hn.wave c).2 ⟨(J.lt _ _ hj).2, by rw [← hde] at hD; exact hD⟩
            rw [he] at this
            cases this
          · obtain ⟨b', h1, _⟩ := hD.pred
            exact ihe (by omega) b' h1
      rcases hn.val b hb with hv | ⟨e, he2, hD, hv⟩
      · refine .inl ⟨hv, fun e hw => ?_⟩
        obtain ⟨f, hf, hDf⟩ := way_dist e hw
        by_cases hfd : f < d + 1
        · have := hn.set b hb f hfd hDf; omega
        · exact hnone f (by omega) b hDf
      · exact .inr ⟨e, by omega, hD, hv⟩
    · rename_i he
      have hl : 1 ≤ (waveM j n d out wave).2.length := List.length_pos_iff.2 he
      have := ih (d + 1) _ _ hn (by omega) (by omega) (by omega)
      simpa using this
theorem far_is {j : Nat → Nat → Bool} {n a : Nat} (J : Joins j n) (ha : a < n) : FarIs j n a (farM j n a) := by
  unfold farM
  rw [if_pos ha]
  have hs := negs_start ha
  have hg : ∀ b, b < n → ((List.replicate n (-1 : Int)).set a 0).getD b 0 = if b = a then 0 else -1 := by
    intro b hb
    rw [List.getD_eq_getElem?_getD, List.getElem?_set]
    by_cases e : a = b
    · subst e; simp [ha]
    · rw [if_neg e, if_neg (fun h => e h.symm)]; simp [hb]
  have h0 : ∀ b, Dist j a b 0 ↔ b = a := fun b => ⟨fun h => h.1, fun h => ⟨h, fun e he => by omega⟩⟩
  refine bfs_is J n 1 _ _ ⟨by simp, fun b hb e he hD => ?_, fun b hb => ?_, fun b => ?_⟩ (by omega) (by omega) (by omega)
  · obtain rfl : e = 0 := by omega
    rw [hg b hb, if_pos ((h0 b).1 hD)]; rfl
  · rw [hg b hb]
    by_cases e : b = a
    · rw [if_pos e]; exact .inr ⟨0, by omega, (h0 b).2 e, rfl⟩
    · rw [if_neg e]; exact .inl rfl
  · rw [List.mem_singleton, h0]
    constructor
    · rintro rfl; exact ⟨ha, rfl⟩
    · rintro ⟨_, h⟩; exact h

/-- The number of steps from a to b, or -1. -/
def F (j : Nat → Nat → Bool) (n a b : Nat) : Int := (farM j n a).getD b 0
section
variable {j : Nat → Nat → Bool} {n : Nat} (J : Joins j n)
include J
theorem F_cases {a b : Nat} (ha : a < n) (hb : b < n) : (F j n a b = -1 ∧ ∀ e, ¬ Way j a e b) ∨ ∃ e : Nat, e ≤ n ∧ Dist j a b e ∧ F j n a b = (e : Int) := (far_is J ha).val b hb
theorem F_self {a : Nat} (ha : a < n) : F j n a a = 0 := by
  rcases F_cases J ha ha with ⟨_, h⟩ | ⟨e, _, hD, h⟩
  · exact absurd rfl (h 0)
  · rcases Nat.eq_zero_or_pos e with rfl | he
    · exact h
    · exact absurd rfl (hD.2 0 he)
theorem F_of_way {a b e : Nat} (ha : a < n) (hb : b < n) (h : Way j a e b) : 0 ≤ F j n a b ∧ F j n a b ≤ e := by
  rcases F_cases J ha hb with ⟨_, h'⟩ | ⟨f, _, hD, hf⟩
  · exact absurd h (h' e)
  · refine ⟨by omega, ?_⟩
    rcases Nat.lt_or_ge e f with hl | hl
    · exact absurd h (hD.2 e hl)
    · omega
theorem way_of_F {a b : Nat} (ha : a < n) (hb : b < n) (h : 0 ≤ F j n a b) : Way j a (F j n a b).toNat b := by
  rcases F_cases J ha hb with ⟨h', _⟩ | ⟨f, _, hD, hf⟩
  · omega
  · rw [hf]; exact hD.1
theorem F_bd {a b : Nat} (ha : a < n) (hb : b < n) : -1 ≤ F j n a b ∧ F j n a b ≤ n := by
  rcases F_cases J ha hb with ⟨h', _⟩ | ⟨f, hfn, hD, hf⟩ <;> omega
theorem F_sym {a b : Nat} (ha : a < n) (hb : b < n) : F j n a b = F j n b a := by
  have h1 := F_bd J ha hb
  have h2 := F_bd J hb ha
  by_cases h : 0 ≤ F j n a b
  · have h3 := F_of_way J hb ha ((way_of_F J ha hb h).back J)
    have h4 := F_of_way J ha hb ((way_of_F J hb ha h3.1).back J)
    omega
  · by_cases h' : 0 ≤ F j n b a
    · have h4 := F_of_way J ha hb ((way_of_F J hb ha h').back J)
      omega
    · omega
theorem F_one {a b : Nat} (ha : a < n) (hb : b < n) : F j n a b = 1 ↔ j a b = true := by
  constructor
  · intro h
    have := way_of_F J ha hb (by omega)
    rw [h] at this
    obtain ⟨c, h1, h2⟩ := this
    rw [show c = a from h1] at h2
    exact h2
  · intro h
    have hw : Way j a 1 b := ⟨a, rfl, h⟩
    have h1 := F_of_way J ha hb hw
    have hne : a ≠ b := by rintro rfl; rw [J.irr] at h; cases h
    rcases F_cases J ha hb with ⟨_, h'⟩ | ⟨f, _, hD, hf⟩
    · exact absurd hw (h' 1)
    · rcases Nat.eq_zero_or_pos f with rfl | hp
      · exact absurd (show b = a from hD.1) (fun e => hne e.symm)
      · omega
theorem F_tri {a b c : Nat} (ha : a < n) (hb : b < n) (hc : c < n) (h1 : 0 ≤ F j n a b) (h2 : 0 ≤ F j n b c) : 0 ≤ F j n a c ∧ F j n a c ≤ F j n a b + F j n b c := by
  have := F_of_way J ha hc ((way_of_F J ha hb h1).trans (way_of_F J hb hc h2))
  omega
end

theorem rowMax_some {m M : Int} {l : List Int} (h : rowMax m l = some M) : m ≤ M ∧ ∀ d ∈ l, 0 ≤ d ∧ d ≤ M := by
  induction l generalizing m with
  | nil => simp [rowMax] at h; simp [h]
  | cons d l ih =>
    simp only [rowMax] at h
    split at h
    · cases h
    · obtain ⟨h1, h2⟩ := ih h
      refine ⟨by split at h1 <;> omega, fun x hx => ?_⟩
      rcases List.mem_cons.1 hx with rfl | hx
      · exact ⟨by omega, by split at h1 <;> omega⟩
      · exact h2 x hx
theorem rowMax_is_none {m : Int} {l : List Int} (h : rowMax m l = none) : ∃ d ∈ l, d < 0 := by
  induction l generalizing m with
  | nil => simp [rowMax] at h
  | cons d l ih =>
    simp only [rowMax] at h
    split at h
    · exact ⟨d, by simp, by assumption⟩
    · obtain ⟨x, h1, h2⟩ := ih h; exact ⟨x, by simp [h1], h2⟩
theorem diamTo_some {j : Nat → Nat → Bool} {n k : Nat} {m : Int} (h : diamTo j n k = some m) : 0 ≤ m ∧ ∀ a, a < k → ∀ d ∈ farM j n a, 0 ≤ d ∧ d ≤ m := by
  induction k generalizing m with
  | zero => simp [diamTo] at h; exact ⟨by omega, fun a ha => by omega⟩
  | succ k ih =>
    rw [diamTo] at h
    cases hk : diamTo j n k with
    | none => rw [hk] at h; cases h
    | some m' =>
      rw [hk] at h
      simp only [Option.bind_some] at h
      obtain ⟨i1, i2⟩ := ih hk
      obtain ⟨r1, r2⟩ := rowMax_some h
      refine ⟨by omega, fun a ha d hd => ?_⟩
      by_cases e : a = k
      · subst e; exact r2 d hd
      · have := i2 a (by omega) d hd; omega
theorem diamTo_is_none {j : Nat → Nat → Bool} {n k : Nat} (h : diamTo j n k = none) : ∃ a, a < k ∧ ∃ d ∈ farM j n a, d < 0 := by
  induction k with
  | zero => cases h
  | succ k ih =>
    rw [diamTo] at h
    cases hk : diamTo j n k with
    | none => obtain ⟨a, h1, h2⟩ := ih hk; exact ⟨a, by omega, h2⟩
    | some m' =>
      rw [hk] at h
      simp only [Option.bind_some] at h
      exact ⟨k, by omega, rowMax_is_none h⟩
theorem F_mem {j : Nat → Nat → Bool} {n a b : Nat} (hb : b < n) : F j n a b ∈ farM j n a := by
  unfold F
  rw [List.getD_eq_getElem?_getD, List.getElem?_eq_getElem (by rw [farM_len]; exact hb)]
  exact List.getElem_mem _
theorem mem_F {j : Nat → Nat → Bool} {n a : Nat} {d : Int} (h : d ∈ farM j n a) : ∃ b, b < n ∧ F j n a b = d := by
  obtain ⟨i, hi, rfl⟩ := List.mem_iff_getElem.1 h
  rw [farM_len] at hi
  exact ⟨i, hi, by unfold F; rw [List.getD_eq_getElem?_getD, List.getElem?_eq_getElem (by rw [farM_len]; exact hi)]; rfl⟩
theorem diam_le {j : Nat → Nat → Bool} {n a b : Nat} (ha : a < n) (hb : b < n) (h : diamM j n < F j n a b) : diamM j n = -1 := by
  unfold diamM at *
  rw [if_neg (by omega)] at *
  cases hk : diamTo j n n with
  | none => rfl
  | some m =>
    rw [hk] at h
    have := ((diamTo_some hk).2 a ha _ (F_mem hb)).2
    simp at h; omega
theorem diam_iff {j : Nat → Nat → Bool} {n : Nat} (hn : 1 ≤ n) : 0 ≤ diamM j n ↔ ∀ a b, a < n → b < n → 0 ≤ F j n a b := by
  unfold diamM
  rw [if_neg (by omega)]
  cases hk : diamTo j n n with
  | none =>
    obtain ⟨a, ha, d, hd, hneg⟩ := diamTo_is_none hk
    obtain ⟨b, hb, rfl⟩ := mem_F hd
    constructor
    · intro h; simp at h
    · intro h; have := h a b ha hb; omega
  | some m =>
    have := diamTo_some hk
    constructor
    · intro _ a b ha hb; exact (this.2 a ha _ (F_mem hb)).1
    · intro _; exact this.1
theorem parts_one {j : Nat → Nat → Bool} {n : Nat} (J : Joins j n) (hn : 1 ≤ n) : (partsTo j n n).2 = 1 ↔ 0 ≤ diamM j n := by
  rw [diam_iff hn]
  have hM : ∀ b, b < n → (markM (List.replicate n false) (farM j n 0)).getD b false = decide (0 ≤ F j n 0 b) := by
    intro b hb
    unfold markM F
    rw [List.getD_eq_getElem?_getD, List.getElem?_zipWith, List.getElem?_replicate, if_pos hb, List.getD_eq_getElem?_getD, List.getElem?_eq_getElem (by rw [farM_len]; exact hb)]
    rfl
  have h1 : partsTo j n 1 = (markM (List.replicate n false) (farM j n 0), 1) := by
    have h0 : (List.replicate n false).getD 0 false = false := by rw [List.getD_eq_getElem?_getD, List.getElem?_replicate]; split <;> rfl
    show partStep j n (List.replicate n false, 0) 0 = _
    unfold partStep
    rw [if_neg (by rw [h0]; simp)]
  have key : ∀ k, 1 ≤ k → k ≤ n → 2 ≤ (partsTo j n k).2 ∨ (partsTo j n k = (markM (List.replicate n false) (farM j n 0), 1) ∧ ∀ i, i < k → 0 ≤ F j n 0 i) := by
    intro k hk1
    induction k with
    | zero => omega
    | succ k ih =>
      intro hkn
      rcases Nat.eq_zero_or_pos k with rfl | hk
      · exact .inr ⟨h1, fun i hi => by obtain rfl : i = 0 := by omega
                                       rw [F_self J (by omega)]; omega⟩
      · rw [partsTo_succ]
        rcases ih hk (by omega) with h | ⟨h, hall⟩
        · left
          unfold partStep
          split
          · exact h
          · simp; omega
        · rw [h]
          unfold partStep
          simp only
          rw [hM k (by omega)]
          by_cases hF : 0 ≤ F j n 0 k
          · rw [if_pos (by simp [hF])]
            refine .inr ⟨rfl, fun i hi => ?_⟩
            by_cases e : i = k
            · rw [e]; exact hF
            · exact hall i (by omega)
          · rw [if_neg (by simp [hF])]
            left; simp
  rcases key n hn (Nat.le_refl _) with h | ⟨h, hall⟩
  · constructor
    · intro e; omega
    · intro hF
      exfalso
      have hno : ∀ k, 1 ≤ k → k ≤ n → (partsTo j n k) = (markM (List.replicate n false) (farM j n 0), 1) := by
        intro k hk1
        induction k with
        | zero => omega
        | succ k ih =>
          intro hkn
          rcases Nat.eq_zero_or_pos k with rfl | hk
          · exact h1
          · rw [partsTo_succ, ih hk (by omega)]
            unfold partStep
            simp only
            rw [hM k (by omega), if_pos (by simp [hF 0 k (by omega) (by omega)])]
      rw [hno n hn (Nat.le_refl _)] at h
      simp at h
  · rw [h]
    simp only [true_iff]
    intro a b ha hb
    have := hall a ha
    rw [F_sym J (by omega) ha] at this
    exact (F_tri J ha (by omega) hb this (hall b hb)).1
end Go.Proofs.Ytpegbplppfbomaa
