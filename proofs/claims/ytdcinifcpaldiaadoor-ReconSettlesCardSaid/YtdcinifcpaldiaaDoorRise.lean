/- Numbers, rising, each once: plain. No statement is proved here. -/
import Derived.Test.YtdcinifcpaldiaaDoorBase
namespace Go.Proofs.YtdcinifcpaldiaaDoor

def ins (x : Nat) (l : List Nat) : List Nat := l.filter (fun y => decide (y < x)) ++ x :: l.filter (fun y => decide (x < y))
def rise (l : List Nat) : List Nat := l.foldl (fun a x => ins x a) []
abbrev Up (l : List Nat) : Prop := l.Pairwise (· < ·)
theorem mem_ins {x y : Nat} {l : List Nat} : y ∈ ins x l ↔ y = x ∨ y ∈ l := by
  unfold ins
  simp only [List.mem_append, List.mem_filter, List.mem_cons, decide_eq_true_eq]
  constructor
  · rintro (⟨h, _⟩ | h | ⟨h, _⟩)
    · exact .inr h
    · exact .inl h
    · exact .inr h
  · rintro (h | h)
    · exact .inr (.inl h)
    · rcases Nat.lt_trichotomy y x with h1 | h1 | h1
      · exact .inl ⟨h, h1⟩
      · exact .inr (.inl h1)
      · exact .inr (.inr ⟨h, h1⟩)
theorem ins_up {x : Nat} {l : List Nat} (h : Up l) : Up (ins x l) := by
  unfold ins
  refine List.pairwise_append.2 ⟨h.filter _, List.pairwise_cons.2 ⟨fun y hy => by simp at hy; exact hy.2, h.filter _⟩, fun a ha b hb => ?_⟩
  simp only [List.mem_filter, decide_eq_true_eq, List.mem_cons] at ha hb
  rcases hb with rfl | hb
  · exact ha.2
  · omega
theorem up_unique : ∀ {a b : List Nat}, Up a → Up b → (∀ y, y ∈ a ↔ y ∈ b) → a = b
  | [], [], _, _, _ => rfl
  | [], y :: b, _, _, h => by simpa using (h y).2 (by simp)
  | x :: a, [], _, _, h => by simpa using (h x).1 (by simp)
  | x :: a, y :: b, ha, hb, h => by
    have h1 := List.pairwise_cons.1 ha
    have h2 := List.pairwise_cons.1 hb
    have e : x = y := by
      have hx := (h x).1 (by simp)
      have hy := (h y).2 (by simp)
      rcases List.mem_cons.1 hx with hx | hx
      · exact hx
      · rcases List.mem_cons.1 hy with hy | hy
        · exact hy.symm
        · have := h1.1 y hy
          have := h2.1 x hx
          omega
    subst e
    rw [up_unique h1.2 h2.2 (fun z => ?_)]
    constructor
    · intro hz
      rcases List.mem_cons.1 ((h z).1 (by simp [hz])) with e | e
      · have := h1.1 z hz; omega
      · exact e
    · intro hz
      rcases List.mem_cons.1 ((h z).2 (by simp [hz])) with e | e
      · have := h2.1 z hz; omega
      · exact e
theorem ins_mem {x : Nat} {l : List Nat} (h : Up l) (hx : x ∈ l) : ins x l = l :=
  up_unique (ins_up h) h (fun y => by rw [mem_ins]; exact ⟨fun e => by rcases e with rfl | e <;> assumption, .inr⟩)
theorem rise_go {l a : List Nat} (h : Up a) : Up (l.foldl (fun a x => ins x a) a) ∧ ∀ y, y ∈ l.foldl (fun a x => ins x a) a ↔ y ∈ a ∨ y ∈ l := by
  induction l generalizing a with
  | nil => exact ⟨h, fun y => by simp⟩
  | cons x l ih =>
    obtain ⟨h1, h2⟩ := ih (ins_up (x := x) h)
    refine ⟨h1, fun y => ?_⟩
    rw [List.foldl_cons, h2, mem_ins, List.mem_cons]
    constructor
    · rintro ((h | h) | h)
      · exact .inr (.inl h)
      · exact .inl h
      · exact .inr (.inr h)
    · rintro (h | h | h)
      · exact .inl (.inr h)
      · exact .inl (.inl h)
      · exact .inr h
theorem rise_up (l : List Nat) : Up (rise l) := (rise_go List.Pairwise.nil).1
theorem mem_rise {l : List Nat} {y : Nat} : y ∈ rise l ↔ y ∈ l := by rw [rise, (rise_go List.Pairwise.nil).2]; simp
theorem rise_eq {l r : List Nat} (h : Up r) (hm : ∀ y, y ∈ r ↔ y ∈ l) : rise l = r := up_unique (rise_up l) h (fun y => by rw [mem_rise, hm])
theorem rise_self {l : List Nat} (h : Up l) : rise l = l := rise_eq h (fun _ => Iff.rfl)
theorem rise_snoc (l : List Nat) (x : Nat) : rise (l ++ [x]) = ins x (rise l) := by simp [rise, List.foldl_append]
theorem ins_len (x : Nat) (l : List Nat) : (ins x l).length ≤ l.length + 1 := by
  unfold ins
  have h : (l.filter (fun y => decide (y < x))).length + (l.filter (fun y => decide (x < y))).length ≤ l.length := by
    induction l with
    | nil => simp
    | cons y l ih =>
      simp only [List.filter_cons]
      by_cases h1 : y < x
      · rw [if_pos (by simpa using h1), if_neg (by simp; omega)]; simp; omega
      · rw [if_neg (by simpa using h1)]
        by_cases h2 : x < y
        · rw [if_pos (by simpa using h2)]; simp; omega
        · rw [if_neg (by simpa using h2)]; simp; omega
  simp; omega
theorem rise_len (l : List Nat) : (rise l).length ≤ l.length := by
  have : ∀ (l a : List Nat), (l.foldl (fun a x => ins x a) a).length ≤ a.length + l.length := by
    intro l
    induction l with
    | nil => simp
    | cons x l ih => intro a; rw [List.foldl_cons]; have := ih (ins x a); have := ins_len x a; simp; omega
  have := this l []
  simpa [rise] using this
end Go.Proofs.YtdcinifcpaldiaaDoor
