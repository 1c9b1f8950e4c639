/- Maps whose elements take one cell: a map's block known by what it answers. 'm[key] = val' on a map known by what it answers. part.among: what tells whether a number is among some. No statement is proved here. -/
import Derived.Test.YtdcinifcpaldiaaDoorBase
import Derived.Maps.Keyed
import Derived.WideKeyEntry
import Derived.DeepKeys4
import Derived.Test.YtdcinifcpaldiaaDoorApp

namespace Go.Proofs.YtdcinifcpaldiaaDoor
open Go.RowKit Go.Maps Go.MapKept
open Go.ChangeMaps (setBlock)

section
variable {P : Program} {k : TypeId}

def OkKey (P : Program) (k : TypeId) (v : Value) : Prop := ∃ l, keyOf P k v = some l

/-- Block b is a map; it answers get. -/
def MapIs (P : Program) (k : TypeId) (w : World) (b : Nat) (get : Value → Option Value) : Prop :=
  ∃ (es : Array MapEntry) (clock : Nat), w.heap[b]? = some (.map es clock) ∧ (∀ e ∈ es.toList, OkKey P k e.key) ∧ Stamped es clock ∧
    (∀ e ∈ es.toList, get e.key = some e.val) ∧ (∀ key, OkKey P k key → (∀ e ∈ es.toList, e.key ≠ key) → get key = none)
open Classical in
noncomputable def putAt (get : Value → Option Value) (key v : Value) : Value → Option Value := fun x => if x = key then some v else get x
theorem putAt_same {get : Value → Option Value} {key v : Value} : putAt get key v key = some v := by simp [putAt]
theorem putAt_other {get : Value → Option Value} {key v x : Value} (h : x ≠ key) : putAt get key v x = get x := by simp [putAt, h]

theorem MapIs.of_eq {w w' : World} {b : Nat} {get : Value → Option Value} (h : MapIs P k w b get) (he : w'.heap[b]? = w.heap[b]?) : MapIs P k w' b get := by
  obtain ⟨es, clock, h1, h2⟩ := h
  exact ⟨es, clock, by rw [he]; exact h1, h2⟩
theorem MapIs.lt {w : World} {b : Nat} {get : Value → Option Value} (h : MapIs P k w b get) : b < w.heap.size := by
  obtain ⟨es, clock, h1, h2⟩ := h
  exact (Array.getElem?_eq_some_iff.1 h1).1
theorem MapIs.drewN {w : World} {b : Nat} {get : Value → Option Value} (h : MapIs P k w b get) (n : Nat) : MapIs P k (w.drewN n) b get := h.of_eq rfl
theorem MapIs.only {S : Nat → Prop} {w w' : World} {b : Nat} {get : Value → Option Value} (h : MapIs P k w b get) (ho : Only S w w') (hs : ¬ S b) : MapIs P k w' b get := h.of_eq (ho.block b h.lt hs)
theorem MapIs.no {w w' : World} {b : Nat} {get : Value → Option Value} (h : MapIs P k w b get) (ho : Only No w w') : MapIs P k w' b get := h.only ho id
theorem MapIs.new (w : World) : MapIs P k (w.alloc (.map #[] 0)) w.heap.size (fun _ => none) :=
  ⟨#[], 0, heap_alloc_new w _, by simp, ⟨by simp, by simp, by simp⟩, by simp, fun _ _ _ => rfl⟩

theorem MapIs.lookup (K : Keyed P k) {t e : TypeId} (ht : P.underlying t = some (.map k e)) {z : Value} (hz : ∀ u : World, (zeroValue e).run P u = .ok z u) {w : World} {b : Nat} {get : Value → Option Value}
    (h : MapIs P k w b get) {key : Value} (hk : OkKey P k key) : (Instr.lookup t (.map (some b)) key false).run P w = .ok ((get key).getD z) w := by
  obtain ⟨es, clock, h1, h2, h3, h4, h5⟩ := h
  obtain ⟨kl, hkl⟩ := hk
  rcases K.find w hkl es.toList h2 with ⟨f1, f2⟩ | ⟨j, e0, f1, f2, f3⟩
  · simp [Instr.lookup, run_underlying ht, MapKept.run_getObj_map h1, K.check w _ hkl, f1, hz, Result.andThen, h5 key ⟨kl, hkl⟩ f2]
  · have := h4 e0 (List.mem_of_getElem? f2)
    rw [f3] at this
    simp [Instr.lookup, run_underlying ht, MapKept.run_getObj_map h1, K.check w _ hkl, f1, Result.andThen, this]
theorem MapIs.lookup_ok (K : Keyed P k) {t e : TypeId} (ht : P.underlying t = some (.map k e)) {z : Value} (hz : ∀ u : World, (zeroValue e).run P u = .ok z u) {w : World} {b : Nat} {get : Value → Option Value}
    (h : MapIs P k w b get) {key : Value} (hk : OkKey P k key) : (Instr.lookup t (.map (some b)) key true).run P w = .ok (.tuple #[(get key).getD z, .bool (get key).isSome]) w := by
  obtain ⟨es, clock, h1, h2, h3, h4, h5⟩ := h
  obtain ⟨kl, hkl⟩ := hk
  rcases K.find w hkl es.toList h2 with ⟨f1, f2⟩ | ⟨j, e0, f1, f2, f3⟩
  · simp [Instr.lookup, run_underlying ht, MapKept.run_getObj_map h1, K.check w _ hkl, f1, hz, Result.andThen, h5 key ⟨kl, hkl⟩ f2]
  · have := h4 e0 (List.mem_of_getElem? f2)
    rw [f3] at this
    simp [Instr.lookup, run_underlying ht, MapKept.run_getObj_map h1, K.check w _ hkl, f1, Result.andThen, this]

theorem Only.setBlock (w : World) (b : Nat) (o : Obj) : Only (· = b) w (setBlock w b o) := by
  refine ⟨rfl, rfl, rfl, by simp [ChangeMaps.setBlock], fun i hi hs => ?_⟩
  simp only [ChangeMaps.setBlock]
  rw [Array.getElem?_setIfInBounds, if_neg (fun e => hs e.symm)]

/-- An object that is a map and answers get. -/
def MapObj (P : Program) (k : TypeId) (o : Obj) (get : Value → Option Value) : Prop :=
  ∃ (es : Array MapEntry) (clock : Nat), o = .map es clock ∧ (∀ e ∈ es.toList, OkKey P k e.key) ∧ Stamped es clock ∧
    (∀ e ∈ es.toList, get e.key = some e.val) ∧ (∀ key, OkKey P k key → (∀ e ∈ es.toList, e.key ≠ key) → get key = none)
theorem MapObj.is {o : Obj} {get : Value → Option Value} (h : MapObj P k o get) {w : World} {b : Nat} (hb : w.heap[b]? = some o) : MapIs P k w b get := by
  obtain ⟨es, clock, rfl, h1⟩ := h
  exact ⟨es, clock, hb, h1⟩
theorem MapIs.obj {w : World} {b : Nat} {get : Value → Option Value} (h : MapIs P k w b get) : ∃ o, w.heap[b]? = some o ∧ MapObj P k o get := by
  obtain ⟨es, clock, h1, h2⟩ := h
  exact ⟨_, h1, es, clock, rfl, h2⟩
theorem block_set (w : World) {b : Nat} (o : Obj) (h : b < w.heap.size) : (setBlock w b o).heap[b]? = some o := by simp [ChangeMaps.setBlock, h]
theorem setBlock_self {w : World} {b : Nat} {o : Obj} (h : w.heap[b]? = some o) : setBlock w b o = w := by
  have hlt : b < w.heap.size := (Array.getElem?_eq_some_iff.1 h).1
  simp only [ChangeMaps.setBlock]
  have : w.heap.setIfInBounds b o = w.heap := by
    apply Array.ext_getElem?
    intro i
    rw [Array.getElem?_setIfInBounds]
    split
    · rename_i e
      subst e
      exact h.symm
    · rfl
  rw [this]
/-- 'm[key] op= ..': the place is made, then filled: in whatever world holds the map. -/
theorem MapObj.entry (K : Keyed P k) {t e : TypeId} (ht : P.underlying t = some (.map k e)) {z : Value} (hz : ∀ u : World, (zeroValue e).run P u = .ok z u) {o : Obj} (b : Nat) {get : Value → Option Value}
    (h : MapObj P k o get) {key : Value} (hk : OkKey P k key) :
    ∃ (st : Nat) (o1 : Obj), MapObj P k o1 (putAt get key ((get key).getD z)) ∧ (∀ w : World, w.heap[b]? = some o → (Instr.mapEntry t (.map (some b)) key).run P w = .ok (.tuple #[(get key).getD z, goInt st]) (setBlock w b o1)) ∧
      ∀ (val : Value), ∃ o2, MapObj P k o2 (putAt get key val) ∧ ∀ w2 : World, w2.heap[b]? = some o1 → (Instr.entryStore t (.map (some b)) (goInt st) val).run P w2 = .ok () (setBlock w2 b o2) := by
  obtain ⟨es, clock, rfl, hok, ⟨s1, s2, s3⟩, h4, h5⟩ := h
  obtain ⟨kl, hkl⟩ := hk
  have hw0 : ∀ w : World, (Instr.findKey k key es.toList).run P w = .ok none w ∧ (∀ e ∈ es.toList, e.key ≠ key) ∨ ∃ j e, (Instr.findKey k key es.toList).run P w = .ok (some (j, e.val)) w ∧ es.toList[j]? = some e ∧ e.key = key := fun w => K.find w hkl es.toList hok
  rcases hw0 default with ⟨-, f2⟩ | ⟨j, e0, -, f2, f3⟩
  · have hn := h5 key ⟨kl, hkl⟩ f2
    have f1 : ∀ w : World, (Instr.findKey k key es.toList).run P w = .ok none w := fun w => by
      rcases hw0 w with ⟨h, _⟩ | ⟨j, e, _, h2, h3⟩
      · exact h
      · exact absurd h3 (f2 e (List.mem_of_getElem? h2))
    have hpush : ∀ {v : Value} {x : MapEntry}, x ∈ (es.push ⟨key, v, clock⟩).toList → x ∈ es.toList ∨ x = ⟨key, v, clock⟩ := fun {v x} h => by simpa using h
    have mk : ∀ (v : Value), MapObj P k (.map (es.push ⟨key, v, clock⟩) (clock + 1)) (putAt get key v) := by
      intro v
      refine ⟨_, _, rfl, ?_, ⟨?_, ?_, ?_⟩, ?_, ?_⟩
      · intro x hx
        rcases hpush hx with hx | hx
        · exact hok x hx
        · subst hx; exact ⟨kl, hkl⟩
      · intro x hx
        rcases hpush hx with hx | hx
        · have := s1 x hx; omega
        · subst hx; simp
      · simp only [Array.toList_push, List.map_append, List.map_cons, List.map_nil]
        refine List.nodup_append.2 ⟨s2, by simp, fun a ha c hc e1 => ?_⟩
        simp only [List.mem_singleton] at hc
        obtain ⟨x, hx, rfl⟩ := List.mem_map.1 ha
        have := s1 x hx
        omega
      · simp only [Array.toList_push, List.map_append, List.map_cons, List.map_nil]
        refine List.nodup_append.2 ⟨s3, by simp, fun a ha c hc e1 => ?_⟩
        simp only [List.mem_singleton] at hc
        obtain ⟨x, hx, rfl⟩ := List.mem_map.1 ha
        exact f2 x hx (e1.trans hc)
      · intro x hx
        rcases hpush hx with hx | hx
        · rw [putAt_other (f2 x hx)]; exact h4 x hx
        · subst hx; exact putAt_same
      · intro x hxo hx
        have hxk : x ≠ key := fun e => hx ⟨key, v, clock⟩ (by simp) e.symm
        rw [putAt_other hxk]
        exact h5 x hxo (fun y hy => hx y (by simp [hy]))
    refine ⟨clock, _, by rw [hn]; exact mk z, fun w hb => ?_, fun val => ⟨_, mk val, fun w2 hw2 => ?_⟩⟩
    · rw [hn]
      simp [Instr.mapEntry, run_underlying ht, MapKept.run_getObj_map hb, K.check w false hkl, f1, hz, MapKept.run_setObj_map _ hb, Result.andThen, ChangeMaps.setBlock]
    · have hidx : (es.push ⟨key, z, clock⟩).findIdx? (fun e => ((e.born : Nat) : Int) == ((clock : Nat) : Int)) = some es.size := by
        rw [WideElems.findIdx_arr]
        have := WideElems.findIdx_born (l := (es.push ⟨key, z, clock⟩).toList) (j := es.size) (e0 := ⟨key, z, clock⟩) (by
          simp only [Array.toList_push, List.map_append, List.map_cons, List.map_nil]
          refine List.nodup_append.2 ⟨s2, by simp, fun a ha c hc e1 => ?_⟩
          simp only [List.mem_singleton] at hc
          obtain ⟨x, hx, rfl⟩ := List.mem_map.1 ha
          have := s1 x hx
          omega) (by simp)
        exact this
      have hmod : (es.push ⟨key, z, clock⟩).modify es.size (fun e => { e with val := val }) = es.push ⟨key, val, clock⟩ := by
        apply Array.ext'
        rw [Array.toList_modify, Array.toList_push, Array.toList_push, ← Array.length_toList, WideElems.modify_last]
      simp [Instr.entryStore, MapKept.run_getObj_map hw2, asInt, asIntOf, goInt, hidx, hmod, MapKept.run_setObj_map _ hw2, Result.andThen, ChangeMaps.setBlock]
  · have hj : es[j]? = some e0 := by simpa using f2
    have hv : get key = some e0.val := by
      have := h4 e0 (List.mem_of_getElem? f2)
      rwa [f3] at this
    have hself : es.modify j (fun e => { e with key := key }) = es := by
      apply Array.ext'
      rw [Array.toList_modify, ChangeMaps.modify_eq_set _ _ _ _ f2]
      have : ({ e0 with key := key } : MapEntry) = e0 := by rw [← f3]
      rw [this]
      exact WideElems.set_self _ _ _ f2
    have f1 : ∀ w : World, (Instr.findKey k key es.toList).run P w = .ok (some (j, e0.val)) w := fun w => by
      rcases hw0 w with ⟨_, h⟩ | ⟨j', e, h, h2, h3⟩
      · exact absurd f3 (h e0 (List.mem_of_getElem? f2))
      · have ki : (es.toList.map (·.key))[j']? = some key := by rw [List.getElem?_map, h2]; simp [h3]
        have kj : (es.toList.map (·.key))[j]? = some key := by rw [List.getElem?_map, f2]; simp [f3]
        obtain ⟨li, hi'⟩ := List.getElem?_eq_some_iff.1 ki
        obtain ⟨lj, hj'⟩ := List.getElem?_eq_some_iff.1 kj
        have : j = j' := (List.getElem_inj s3).1 (hj'.trans hi'.symm)
        subst this
        rw [f2] at h2
        cases h2
        exact h
    have hput : putAt get key e0.val = get := by
      funext x
      by_cases hx : x = key
      · rw [hx, putAt_same, hv]
      · rw [putAt_other hx]
    refine ⟨e0.born, .map es clock, ?_, fun w hb => ?_, fun val => ?_⟩
    · rw [hv, Option.getD_some, hput]
      exact ⟨es, clock, rfl, hok, ⟨s1, s2, s3⟩, h4, h5⟩
    · rw [hv]
      simp only [Option.getD_some]
      simp [Instr.mapEntry, run_underlying ht, MapKept.run_getObj_map hb, K.check w false hkl, f1, hj, f3, K.stays w hkl, hself, MapKept.run_setObj_map _ hb, Result.andThen, ChangeMaps.setBlock]
    · have hidx : es.findIdx? (fun e => ((e.born : Nat) : Int) == ((e0.born : Nat) : Int)) = some j := by
        rw [WideElems.findIdx_arr]
        exact WideElems.findIdx_born s2 f2
      have hlist : (es.modify j (fun e => { e with val := val })).toList = es.toList.set j { e0 with val := val } := by
        rw [Array.toList_modify, ChangeMaps.modify_eq_set _ _ _ _ f2]
      have hjl : j < es.toList.length := (List.getElem?_eq_some_iff.1 f2).1
      have hmap : ∀ {α : Type} (f : MapEntry → α), f { e0 with val := val } = f e0 → (es.toList.set j { e0 with val := val }).map f = es.toList.map f := by
        intro α f hf
        rw [List.map_set, hf]
        exact WideElems.set_self _ _ _ (by rw [List.getElem?_map, f2]; rfl)
      have hother : ∀ x ∈ es.toList.set j { e0 with val := val }, x = { e0 with val := val } ∨ (x ∈ es.toList ∧ x.key ≠ key) := by
        intro x hx
        obtain ⟨i, hi⟩ := List.mem_iff_getElem?.1 hx
        rw [List.getElem?_set] at hi
        split at hi
        · rename_i e
          exact .inl (Option.some.inj hi).symm
        · rename_i e
          refine .inr ⟨List.mem_of_getElem? hi, fun ek => e ?_⟩
          have ki : (es.toList.map (·.key))[i]? = some key := by rw [List.getElem?_map, hi]; simp [ek]
          have kj : (es.toList.map (·.key))[j]? = some key := by rw [List.getElem?_map, f2]; simp [f3]
          obtain ⟨li, hi'⟩ := List.getElem?_eq_some_iff.1 ki
          obtain ⟨lj, hj'⟩ := List.getElem?_eq_some_iff.1 kj
          exact (List.getElem_inj s3).1 (hj'.trans hi'.symm)
      refine ⟨.map (es.modify j (fun e => { e with val := val })) clock, ⟨_, _, rfl, ?_, ⟨?_, ?_, ?_⟩, ?_, ?_⟩, fun w2 hw2 => ?_⟩
      · rw [hlist]
        intro x hx
        rcases hother x hx with rfl | ⟨hx, _⟩
        · exact ⟨kl, by show keyOf P k e0.key = _; rw [f3]; exact hkl⟩
        · exact hok x hx
      · rw [hlist]
        intro x hx
        rcases hother x hx with rfl | ⟨hx, _⟩
        · exact s1 e0 (List.mem_of_getElem? f2)
        · exact s1 x hx
      · rw [hlist, hmap (·.born) rfl]; exact s2
      · rw [hlist, hmap (·.key) rfl]; exact s3
      · rw [hlist]
        intro x hx
        rcases hother x hx with rfl | ⟨hx, hk⟩
        · show putAt get key val e0.key = some val
          rw [f3]; exact putAt_same
        · rw [putAt_other hk]; exact h4 x hx
      · rw [hlist]
        intro x hxo hx
        have hxk : x ≠ key := fun e => hx { e0 with val := val } (List.mem_iff_getElem?.2 ⟨j, by rw [List.getElem?_set, if_pos rfl, if_pos hjl]⟩) (by show e0.key = x; rw [f3, e])
        rw [putAt_other hxk]
        refine h5 x hxo (fun y hy ey => ?_)
        obtain ⟨i, hi⟩ := List.mem_iff_getElem?.1 hy
        by_cases hij : j = i
        · subst hij
          rw [f2] at hi
          cases hi
          exact hxk (ey.symm.trans f3)
        · exact hx y (List.mem_iff_getElem?.2 ⟨i, by rw [List.getElem?_set, if_neg hij]; exact hi⟩) ey
      · simp [Instr.entryStore, MapKept.run_getObj_map hw2, asInt, asIntOf, goInt, hidx, MapKept.run_setObj_map _ hw2, Result.andThen, ChangeMaps.setBlock]
/-- 'm[key] op= ..' in a region that draws: the worlds are named, the draws stand outside. -/
theorem MapIs.entryAt (K : Keyed P k) {t e : TypeId} (ht : P.underlying t = some (.map k e)) {z : Value} (hz : ∀ u : World, (zeroValue e).run P u = .ok z u) {W : World} {b : Nat} {get : Value → Option Value}
    (h : MapIs P k W b get) {key : Value} (hk : OkKey P k key) :
    ∃ (st : Nat) (W1 : World), (∀ q, (Instr.mapEntry t (.map (some b)) key).run P (W.drewN q) = .ok (.tuple #[(get key).getD z, goInt st]) (W1.drewN q)) ∧ MapIs P k W1 b (putAt get key ((get key).getD z)) ∧ Only (· = b) W W1 ∧
      ∀ (val : Value), ∃ W2, (∀ q, (Instr.entryStore t (.map (some b)) (goInt st) val).run P (W1.drewN q) = .ok () (W2.drewN q)) ∧ MapIs P k W2 b (putAt get key val) ∧ Only (· = b) W W2 := by
  obtain ⟨o, ho, hO⟩ := h.obj
  have hlt := h.lt
  obtain ⟨st, o1, m1, r1, r2⟩ := hO.entry K ht hz b hk
  refine ⟨st, setBlock W b o1, fun q => r1 (W.drewN q) ho, m1.is (block_set W o1 hlt), Only.setBlock _ _ _, fun val => ?_⟩
  obtain ⟨o2, m2, r3⟩ := r2 val
  have hlt1 : b < (setBlock W b o1).heap.size := by simpa [ChangeMaps.setBlock] using hlt
  exact ⟨setBlock (setBlock W b o1) b o2, fun q => r3 ((setBlock W b o1).drewN q) (block_set W o1 hlt), m2.is (block_set _ o2 hlt1), (Only.setBlock _ _ _).trans (Only.setBlock _ _ _)⟩
end
end Go.Proofs.YtdcinifcpaldiaaDoor

namespace Go.Proofs.YtdcinifcpaldiaaDoor
open Go.RowKit Go.Maps Go.MapKept
open Go.ChangeMaps (setBlock)
section
variable {P : Program} {k : TypeId}
theorem MapIs.update (K : Keyed P k) {t e : TypeId} (ht : P.underlying t = some (.map k e)) {w : World} {b : Nat} {get : Value → Option Value}
    (h : MapIs P k w b get) {key : Value} (hk : OkKey P k key) (val : Value) :
    ∃ w', (Instr.mapUpdate t (.map (some b)) key val).run P w = .ok () w' ∧ MapIs P k w' b (putAt get key val) ∧ Only (· = b) w w' := by
  have hlt := h.lt
  obtain ⟨es, clock, hb, hok, ⟨s1, s2, s3⟩, h4, h5⟩ := h
  obtain ⟨kl, hkl⟩ := hk
  rcases K.find w hkl es.toList hok with ⟨f1, f2⟩ | ⟨j, e0, f1, f2, f3⟩
  · have hpush : ∀ {v : Value} {x : MapEntry}, x ∈ (es.push ⟨key, v, clock⟩).toList → x ∈ es.toList ∨ x = ⟨key, v, clock⟩ := fun {v x} h => by simpa using h
    refine ⟨setBlock w b (.map (es.push ⟨key, val, clock⟩) (clock + 1)), ?_, ?_, Only.setBlock _ _ _⟩
    · simp [Instr.mapUpdate, run_underlying ht, MapKept.run_getObj_map hb, K.check w false hkl, f1, MapKept.run_setObj_map _ hb, Result.andThen, ChangeMaps.setBlock]
    · refine ⟨_, _, block_set w _ hlt, ?_, ⟨?_, ?_, ?_⟩, ?_, ?_⟩
      · intro x hx
        rcases hpush hx with hx | hx
        · exact hok x hx
        · subst hx; exact ⟨kl, hkl⟩
      · intro x hx
        rcases hpush hx with hx | hx
        · have := s1 x hx; omega
        · subst hx; simp
      · simp only [Array.toList_push, List.map_append, List.map_cons, List.map_nil]
        refine List.nodup_append.2 ⟨s2, by simp, fun a ha c hc e1 => ?_⟩
        simp only [List.mem_singleton] at hc
        obtain ⟨x, hx, rfl⟩ := List.mem_map.1 ha
        have := s1 x hx
        omega
      · simp only [Array.toList_push, List.map_append, List.map_cons, List.map_nil]
        refine List.nodup_append.2 ⟨s3, by simp, fun a ha c hc e1 => ?_⟩
        simp only [List.mem_singleton] at hc
        obtain ⟨x, hx, rfl⟩ := List.mem_map.1 ha
        exact f2 x hx (e1.trans hc)
      · intro x hx
        rcases hpush hx with hx | hx
        · rw [putAt_other (f2 x hx)]; exact h4 x hx
        · subst hx; exact putAt_same
      · intro x hxo hx
        have hxk : x ≠ key := fun e => hx ⟨key, val, clock⟩ (by simp) e.symm
        rw [putAt_other hxk]
        exact h5 x hxo (fun y hy => hx y (by simp [hy]))
  · have hj : es[j]? = some e0 := by simpa using f2
    have hmod : es.modify j (fun e => { e with key := key, val := val }) = es.modify j (fun e => { e with val := val }) := by
      apply Array.ext'
      rw [Array.toList_modify, Array.toList_modify, ChangeMaps.modify_eq_set _ _ _ _ f2, ChangeMaps.modify_eq_set _ _ _ _ f2]
      simp [← f3]
    have hlist : (es.modify j (fun e => { e with val := val })).toList = es.toList.set j { e0 with val := val } := by
      rw [Array.toList_modify, ChangeMaps.modify_eq_set _ _ _ _ f2]
    have hjl : j < es.toList.length := (List.getElem?_eq_some_iff.1 f2).1
    have hmap : ∀ {α : Type} (f : MapEntry → α), f { e0 with val := val } = f e0 → (es.toList.set j { e0 with val := val }).map f = es.toList.map f := by
      intro α f hf
      rw [List.map_set, hf]
      exact WideElems.set_self _ _ _ (by rw [List.getElem?_map, f2]; rfl)
    have hother : ∀ x ∈ es.toList.set j { e0 with val := val }, x = { e0 with val := val } ∨ (x ∈ es.toList ∧ x.key ≠ key) := by
      intro x hx
      obtain ⟨i, hi⟩ := List.mem_iff_getElem?.1 hx
      rw [List.getElem?_set] at hi
      split at hi
      · rename_i e
        exact .inl (Option.some.inj hi).symm
      · rename_i e
        refine .inr ⟨List.mem_of_getElem? hi, fun ek => e ?_⟩
        have ki : (es.toList.map (·.key))[i]? = some key := by rw [List.getElem?_map, hi]; simp [ek]
        have kj : (es.toList.map (·.key))[j]? = some key := by rw [List.getElem?_map, f2]; simp [f3]
        obtain ⟨li, hi'⟩ := List.getElem?_eq_some_iff.1 ki
        obtain ⟨lj, hj'⟩ := List.getElem?_eq_some_iff.1 kj
        exact (List.getElem_inj s3).1 (hj'.trans hi'.symm)
    refine ⟨setBlock w b (.map (es.modify j (fun e => { e with val := val })) clock), ?_, ?_, Only.setBlock _ _ _⟩
    · simp [Instr.mapUpdate, run_underlying ht, MapKept.run_getObj_map hb, K.check w false hkl, f1, hj, f3, K.stays w hkl, hmod, MapKept.run_setObj_map _ hb, Result.andThen, ChangeMaps.setBlock]
    · refine ⟨_, _, block_set w _ hlt, ?_, ⟨?_, ?_, ?_⟩, ?_, ?_⟩
      · rw [hlist]
        intro x hx
        rcases hother x hx with rfl | ⟨hx, _⟩
        · exact ⟨kl, by show keyOf P k e0.key = _; rw [f3]; exact hkl⟩
        · exact hok x hx
      · rw [hlist]
        intro x hx
        rcases hother x hx with rfl | ⟨hx, _⟩
        · exact s1 e0 (List.mem_of_getElem? f2)
        · exact s1 x hx
      · rw [hlist, hmap (·.born) rfl]; exact s2
      · rw [hlist, hmap (·.key) rfl]; exact s3
      · rw [hlist]
        intro x hx
        rcases hother x hx with rfl | ⟨hx, hk⟩
        · show putAt get key val e0.key = some val
          rw [f3]; exact putAt_same
        · rw [putAt_other hk]; exact h4 x hx
      · rw [hlist]
        intro x hxo hx
        have hxk : x ≠ key := fun e => hx { e0 with val := val } (List.mem_iff_getElem?.2 ⟨j, by rw [List.getElem?_set, if_pos rfl, if_pos hjl]⟩) (by show e0.key = x; rw [f3, e])
        rw [putAt_other hxk]
        refine h5 x hxo (fun y hy ey => ?_)
        obtain ⟨i, hi⟩ := List.mem_iff_getElem?.1 hy
        by_cases hij : j = i
        · subst hij
          rw [f2] at hi
          cases hi
          exact hxk (ey.symm.trans f3)
        · exact hx y (List.mem_iff_getElem?.2 ⟨i, by rw [List.getElem?_set, if_neg hij]; exact hi⟩) ey
end
end Go.Proofs.YtdcinifcpaldiaaDoor

namespace Go.Proofs.YtdcinifcpaldiaaDoor
open Go.RowKit Go.Maps

theorem u64_keyed : Keyed Tryd.prog 25 := int_keyed Tryd.underlying25
theorem int_zero (w : World) : (zeroValue 3).run Tryd.prog w = .ok (.int .i64 0) w := by kernel_rfl
theorem u64_wf {x : Nat} (h : x < 18446744073709551616) : (Lit.int .u64 (x : Int)).wf = true := by simp [Lit.wf, IntKind.min, IntKind.max, IntKind.signed, IntKind.bits]; omega
theorem u64_ok {x : Nat} (h : x < 18446744073709551616) : OkKey Tryd.prog 25 (.int .u64 (x : Int)) := by
  refine ⟨.int .u64 (x : Int), ?_⟩
  have := u64_wf h
  simp [keyOf, mapKey, Tryd.underlying25, this]

/-- Block mb is a map that counts l. -/
def Counts (w : World) (mb : Nat) (l : List Nat) : Prop :=
  ∃ get, MapIs Tryd.prog 25 w mb get ∧ ∀ x : Nat, x < 18446744073709551616 → (get (.int .u64 (x : Int))).getD (.int .i64 0) = .int .i64 (l.count x : Nat)
theorem Counts.only {S : Nat → Prop} {w w' : World} {mb : Nat} {l : List Nat} (h : Counts w mb l) (ho : Only S w w') (hs : mb < w.heap.size → ¬ S mb) : Counts w' mb l := by
  obtain ⟨get, h1, h2⟩ := h
  exact ⟨get, h1.only ho (hs h1.lt), h2⟩
theorem Counts.lt {w : World} {mb : Nat} {l : List Nat} (h : Counts w mb l) : mb < w.heap.size := by obtain ⟨_, h, _⟩ := h; exact h.lt
theorem Counts.new (w : World) : Counts (w.alloc (.map #[] 0)) w.heap.size [] := ⟨_, MapIs.new w, fun x _ => by simp⟩
theorem Counts.lookup {w : World} {mb : Nat} {l : List Nat} (h : Counts w mb l) {x : Nat} (hx : x < 18446744073709551616) : (Instr.lookup 117 (.map (some mb)) (.int .u64 (x : Int)) false).run Tryd.prog w = .ok (.int .i64 (l.count x : Nat)) w := by
  obtain ⟨get, h1, h2⟩ := h
  rw [h1.lookup u64_keyed Tryd.underlying117 int_zero (u64_ok hx), h2 x hx]
theorem count_snoc (l : List Nat) (x y : Nat) : (l ++ [x]).count y = if y = x then l.count x + 1 else l.count y := by
  by_cases h : y = x
  · subst h; rw [if_pos rfl, List.count_append]; simp
  · rw [if_neg h, List.count_append, List.count_singleton]; simp; omega
theorem Counts.add {w : World} {mb : Nat} {l : List Nat} (h : Counts w mb l) {x : Nat} (hx : x < 18446744073709551616) :
    ∃ w', (Instr.mapUpdate 117 (.map (some mb)) (.int .u64 (x : Int)) (.int .i64 ((l.count x : Nat) + 1))).run Tryd.prog w = .ok () w' ∧ Counts w' mb (l ++ [x]) ∧ Only (· = mb) w w' := by
  obtain ⟨get, h1, h2⟩ := h
  obtain ⟨w', h3, h4, h5⟩ := h1.update u64_keyed Tryd.underlying117 (u64_ok hx) (.int .i64 ((l.count x : Nat) + 1))
  refine ⟨w', h3, ⟨_, h4, fun y hy => ?_⟩, h5⟩
  rw [count_snoc]
  by_cases e : y = x
  · subst e; rw [putAt_same, if_pos rfl]; simp
  · rw [putAt_other (by simp; omega), if_neg e, h2 y hy]

/-- The closure that among hands back: it tells whether a number is in l; what it looks at lies from block B on. -/
def Tells (w : World) (B : Nat) (f : Value) (l : List Nat) : Prop :=
  ∃ bx mb, f = .func (.func 124) #[] #[.pointer (some ⟨bx, 0, none⟩)] ∧ B ≤ bx ∧ B ≤ mb ∧ Blk w bx #[.map (some mb)] 117 ∧ Counts w mb l
theorem Tells.only {S : Nat → Prop} {w w' : World} {B : Nat} {f : Value} {l : List Nat} (h : Tells w B f l) (ho : Only S w w') (hs : ∀ k, B ≤ k → k < w.heap.size → ¬ S k) : Tells w' B f l := by
  obtain ⟨bx, mb, h1, h2, h3, h4, h5⟩ := h
  exact ⟨bx, mb, h1, h2, h3, ho.blk h4 (hs bx h2 h4.lt), h5.only ho (hs mb h3)⟩
def isIn (x : Nat) (l : List Nat) : Bool := decide (x ∈ l)
theorem isIn_count (x : Nat) (l : List Nat) : isIn x l = decide (0 < ((l.count x : Nat) : Int)) := by
  unfold isIn
  rw [decide_eq_decide]
  rw [← List.count_pos_iff]
  omega
theorem tells_c (bx mb : Nat) (x : Nat) (l : List Nat) (w : World) (hx : W64 x) (hb : Blk w bx #[.map (some mb)] 117) (hc : Counts w mb l) :
    Calls Tryd.prog 124 #[.int .u64 (x : Int), .pointer (some ⟨bx, 0, none⟩)] w fun e w' => e = .returned (.bool (isIn x l)) ∧ w = w' := by
  have c1 := hb.cell 0 _ rfl
  have h2 := hc.lookup hx.lt
  have HI := Lib.hid (isIn_count x l)
  generalize isIn x l = r at *
  generalize ((l.count x : Nat) : Int) = c at *
  go_enter Tryd.func124, Tryd.ntmps124
  go_wp2
  go_ret
  rw [HI.out]
  exact ⟨rfl, rfl⟩

theorem run_makeMapN {n : Int} (w : World) : (Instr.makeMap 117 (some (.int .i64 n))).run Tryd.prog w = .ok (.map (some w.heap.size)) (w.alloc (.map #[] 0)) := by
  simp [Instr.makeMap, run_underlying Tryd.underlying117, asInt, asIntOf, Result.andThen]
set_option maxRecDepth 100000 in
set_option maxHeartbeats 1000000 in
theorem among_c (v : Value) (l : List Nat) (w : World) (hR : Rd w v (u64s l)) (hl : l.length ≤ 1000000) (hx : ∀ x ∈ l, W64 x) :
    Calls Tryd.prog 86 #[v] w fun e w' => ∃ f, e = .returned f ∧ Tells w' w.heap.size f l ∧ Only No w w' := by
  obtain ⟨a, cap, rfl, hcap⟩ := hR.cases
  rw [u64s_len] at hR hcap ⊢
  have hmm := @run_makeMapN
  go_enter Tryd.func86, Tryd.ntmps86
  go_wp2
  generalize hW0 : (w.alloc (.map #[] 0)).alloc (.cells #[.map (some w.heap.size)] 117) = W0
  have hO0 : Only No w W0 := by rw [← hW0]; exact ((Only.refl _ _).alloc _).alloc _
  have hb0 : Blk W0 (w.heap.size + 1) #[.map (some w.heap.size)] 117 := by
    rw [← hW0]
    have := Blk.new (w.alloc (.map #[] 0)) #[.map (some w.heap.size)] 117
    simpa using this
  have hc0 : Counts W0 w.heap.size [] := by rw [← hW0]; exact (Counts.new w).only ((Only.refl No _).alloc _) (fun _ h => h)
  go_loopw [5, 11] (fun v5 v11 wr => ∃ i : Nat, i ≤ l.length ∧ v11 = .int .i64 i ∧ Blk wr (w.heap.size + 1) #[.map (some w.heap.size)] 117 ∧ Counts wr w.heap.size (l.take i) ∧ Only No w wr) (fun _ v11 _ => l.length - (intOf v11).toNat)
  case atStart => exact ⟨0, Nat.zero_le _, rfl, hb0, hc0, hO0⟩
  case round =>
    obtain ⟨i, hi, rfl, hb, hc, hO⟩ := hrel
    have c1 := hb.cell 0 _ rfl
    by_cases hlt : i < l.length
    · obtain ⟨-, b, off, rfl, hbl, hcell⟩ := hR.at (by rw [u64s_len]; omega)
      have hc2 := (hO.cell (p := ⟨b, off + i, none⟩) hbl id).trans (hcell i _ (u64s_get hlt))
      have hts : l.take (i + 1) = l.take i ++ [l[i]] := List.take_succ_eq_append_getElem hlt
      have hxx := hx l[i] (List.getElem_mem hlt)
      generalize l[i] = x at *
      have hk := hc.lookup hxx.lt
      obtain ⟨w2, hup, hc3, hO3⟩ := hc.add hxx.lt
      have hcnt : (l.take i).count x ≤ 1000000 := Nat.le_trans List.count_le_length (by simp; omega)
      generalize (l.take i).count x = c at *
      have HS := Lib.hid hts
      have hb3 := hO3.blk hb (by omega)
      have hO4 := hO.then hO3 (fun i hi e => by omega)
      clear hts hcell hc hxx
      go_wp2
      go_roundw
      case rel => exact ⟨i + 1, by omega, by go_num, hb3, by rw [HS.out]; exact hc3, hO4⟩
      case measure => simp [intOf]; omega
    · have : i = l.length := by omega
      subst this
      rw [List.take_length] at hc
      go_wp2
      go_ret
      exact ⟨_, rfl, ⟨_, _, rfl, by omega, by omega, hb, hc⟩, hO⟩
end Go.Proofs.YtdcinifcpaldiaaDoor
