/- 'm[key] = val' on a map known by what it answers. No statement is proved here. -/
import Derived.Test.YtdcinifcpaldiaaMap
namespace Go.Proofs.Ytdcinifcpaldiaa
open Go.RowKit Go.Maps Go.MapKept
open Go.ChangeMaps (setBlock)
section
variable {P : Program} {k : TypeId}
theorem MapIs.update (K : Keyed P k) {t e : TypeId} (ht : P.underlying t = some (.map k e)) {w : World} {b : Nat} {get : Value → Option Value}
    (h : MapIs P k w b get) {key : Value} (hk : OkKey P k key) (val : Value) :
    ∃ w', (Instr.mapUpdate t (.map (some b)) key val).run P w = .ok () w' ∧ MapIs P k w' b (putAt get key val) ∧ Only (· = b) w w' := by
  have hlt := h.lt
  obtain ⟨es, clock, hb, hok, ⟨s1, s2, s3⟩, h4, h5⟩ := h
  obtain ⟨kl, hkl⟩ := hk
  rcases K.find w hkl es.toList hok with ⟨f1, f2⟩ | ⟨j, e0, f1, f2, f3⟩
  · have hpush : ∀ {v : Value} {x : MapEntry}, x ∈ (es.push ⟨key, v, clock⟩).toList → x ∈ es.toList ∨ x = ⟨key, v, clock⟩ := fun {v x} h => by simpa using h
    refine ⟨setBlock w b (.map (es.push ⟨key, val, clock⟩) (clock + 1)), ?_, ?_, Only.setBlock _ _ _⟩
    · simp [Instr.mapUpdate, run_underlying ht, MapKept.run_getObj_map hb, K.check w false hkl, f1, MapKept.run_setObj_map _ hb, Result.andThen, ChangeMaps.setBlock]
    · refine ⟨_, _, block_set w _ hlt, ?_, ⟨?_, ?_, ?_⟩, ?_, ?_⟩
      · intro x hx
        rcases hpush hx with hx | hx
        · exact hok x hx
        · subst hx; exact ⟨kl, hkl⟩
      · intro x hx
        rcases hpush hx with hx | hx
        · have := s1 x hx; omega
        · subst hx; simp
      · simp only [Array.toList_push, List.map_append, List.map_cons, List.map_nil]
        refine List.nodup_append.2 ⟨s2, by simp, fun a ha c hc e1 => ?_⟩
        simp only [List.mem_singleton] at hc
        obtain ⟨x, hx, rfl⟩ := List.mem_map.1 ha
        have := s1 x hx
        omega
      · simp only [Array.toList_push, List.map_append, List.map_cons, List.map_nil]
        refine List.nodup_append.2 ⟨s3, by simp, fun a ha c hc e1 => ?_⟩
        simp only [List.mem_singleton] at hc
        obtain ⟨x, hx, rfl⟩ := List.mem_map.1 ha
        exact f2 x hx (e1.trans hc)
      · intro x hx
        rcases hpush hx with hx | hx
        · rw [putAt_other (f2 x hx)]; exact h4 x hx
        · subst hx; exact putAt_same
      · intro x hxo hx
        have hxk : x ≠ key := fun e => hx ⟨key, val, clock⟩ (by simp) e.symm
        rw [putAt_other hxk]
        exact h5 x hxo (fun y hy => hx y (by simp [hy]))
  · have hj : es[j]? = some e0 := by simpa using f2
    have hmod : es.modify j (fun e => { e with key := key, val := val }) = es.modify j (fun e => { e with val := val }) := by
      apply Array.ext'
      rw [Array.toList_modify, Array.toList_modify, ChangeMaps.modify_eq_set _ _ _ _ f2, ChangeMaps.modify_eq_set _ _ _ _ f2]
      simp [← f3]
    have hlist : (es.modify j (fun e => { e with val := val })).toList = es.toList.set j { e0 with val := val } := by
      rw [Array.toList_modify, ChangeMaps.modify_eq_set _ _ _ _ f2]
    have hjl : j < es.toList.length := (List.getElem?_eq_some_iff.1 f2).1
    have hmap : ∀ {α : Type} (f : MapEntry → α), f { e0 with val := val } = f e0 → (es.toList.set j { e0 with val := val }).map f = es.toList.map f := by
      intro α f hf
      rw [List.map_set, hf]
      exact WideElems.set_self _ _ _ (by rw [List.getElem?_map, f2]; rfl)
    have hother : ∀ x ∈ es.toList.set j { e0 with val := val }, x = { e0 with val := val } ∨ (x ∈ es.toList ∧ x.key ≠ key) := by
      intro x hx
      obtain ⟨i, hi⟩ := List.mem_iff_getElem?.1 hx
      rw [List.getElem?_set] at hi
      split at hi
      · rename_i e
        exact .inl (Option.some.inj hi).symm
      · rename_i e
        refine .inr ⟨List.mem_of_getElem? hi, fun ek => e ?_⟩
        have ki : (es.toList.map (·.key))[i]? = some key := by rw [List.getElem?_map, hi]; simp [ek]
        have kj : (es.toList.map (·.key))[j]? = some key := by rw [List.getElem?_map, f2]; simp [f3]
        obtain ⟨li, hi'⟩ := List.getElem?_eq_some_iff.1 ki
        obtain ⟨lj, hj'⟩ := List.getElem?_eq_some_iff.1 kj
        exact (List.getElem_inj s3).1 (hj'.trans hi'.symm)
    refine ⟨setBlock w b (.map (es.modify j (fun e => { e with val := val })) clock), ?_, ?_, Only.setBlock _ _ _⟩
    · simp [Instr.mapUpdate, run_underlying ht, MapKept.run_getObj_map hb, K.check w false hkl, f1, hj, f3, K.stays w hkl, hmod, MapKept.run_setObj_map _ hb, Result.andThen, ChangeMaps.setBlock]
    · refine ⟨_, _, block_set w _ hlt, ?_, ⟨?_, ?_, ?_⟩, ?_, ?_⟩
      · rw [hlist]
        intro x hx
        rcases hother x hx with rfl | ⟨hx, _⟩
        · exact ⟨kl, by show keyOf P k e0.key = _; rw [f3]; exact hkl⟩
        · exact hok x hx
      · rw [hlist]
        intro x hx
        rcases hother x hx with rfl | ⟨hx, _⟩
        · exact s1 e0 (List.mem_of_getElem? f2)
        · exact s1 x hx
      · rw [hlist, hmap (·.born) rfl]; exact s2
      · rw [hlist, hmap (·.key) rfl]; exact s3
      · rw [hlist]
        intro x hx
        rcases hother x hx with rfl | ⟨hx, hk⟩
        · show putAt get key val e0.key = some val
          rw [f3]; exact putAt_same
        · rw [putAt_other hk]; exact h4 x hx
      · rw [hlist]
        intro x hxo hx
        have hxk : x ≠ key := fun e => hx { e0 with val := val } (List.mem_iff_getElem?.2 ⟨j, by rw [List.getElem?_set, if_pos rfl, if_pos hjl]⟩) (by show e0.key = x; rw [f3, e])
        rw [putAt_other hxk]
        refine h5 x hxo (fun y hy ey => ?_)
        obtain ⟨i, hi⟩ := List.mem_iff_getElem?.1 hy
        by_cases hij : j = i
        · subst hij
          rw [f2] at hi
          cases hi
          exact hxk (ey.symm.trans f3)
        · exact hx y (List.mem_iff_getElem?.2 ⟨i, by rw [List.getElem?_set, if_neg hij]; exact hi⟩) ey
end
end Go.Proofs.Ytdcinifcpaldiaa
