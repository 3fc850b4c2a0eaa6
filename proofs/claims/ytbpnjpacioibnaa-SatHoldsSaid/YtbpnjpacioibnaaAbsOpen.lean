/- What an argument that can be read as data is to the abstract machine: values that are only read. -/
import Derived.Test.YtbpnjpacioibnaaAbs11
import Derived.Deep.Slices
import Derived.ChangeShapes
import Derived.RowKit
set_option linter.unusedVariables false
set_option linter.unusedSimpArgs false
namespace Go.Abs
open Go Go.RowKit Go.ChangeShapes Go.Deep
section
variable {H : Type} {enc : TypeId × Value → H} {P : Program} {w : World} {base : Nat} {spare : Nat → Bool} {held : Bool}
/-- an array's or a slice's cells, one to a member -/
theorem open_row1 {S : AV → Prop} {t e : TypeId} {fuel : Nat} {v : Value} {x : DataW H × List MemPlace} (ht : P.underlying t = some (.slice e)) (hc : P.cellsOf e = 1) (h : DataW.trod enc P w base spare held fuel t [v] = some x)
    (hel : ∀ n u y, DataW.trod enc P w base spare held n e [u] = some y → ∃ av, VR (Cx.old w) av u ∧ S av) :
    ∃ cs, VR (Cx.old w) (.row cs cs.length) v ∧ (∀ c ∈ cs, S c) ∧ cs.length ≤ maxLen := by
  rcases open_slice1 ht hc h with ⟨h0, _⟩ | ⟨a, len, cap, m, n, V, D, Pl, hv, hb, hl, hm, hmm, rfl, hx⟩
  · refine ⟨[], ?_, nofun, Nat.zero_le _⟩
    have : v = .slice none 0 0 := by simpa using h0
    subst this
    simp only [VR]
    exact .inl ⟨trivial, rfl, none, 0, rfl⟩
  · have : v = .slice (some a) len cap := by simpa using hv
    subst this
    have hlm : len ≤ m := by subst hmm; split <;> omega
    by_cases h0 : len = 0
    · subst h0
      refine ⟨[], ?_, nofun, Nat.zero_le _⟩
      simp only [VR]
      exact .inl ⟨trivial, rfl, some a, cap, rfl⟩
    · have hex : ∀ i, i < len → ∃ av, VR (Cx.old w) av (V i) ∧ S av := fun i hi => hel n _ _ (hx i (by omega)).2
      let f : Nat → AV := fun i => if hi : i < len then Classical.choose (hex i hi) else .undef
      have hf : ∀ i, i < len → VR (Cx.old w) (f i) (V i) ∧ S (f i) := fun i hi => by
        simp only [f, dif_pos hi]
        exact Classical.choose_spec (hex i hi)
      have hc0 := (hx 0 (by omega)).1
      have hsp : a.spot = none := World.cell?_spot (by simpa [Addr.add] using hc0)
      obtain ⟨b, off, sp⟩ := a
      subst hsp
      have hcell : ∀ i, i < len → w.cell? ⟨b, off + i, none⟩ = some (V i) := fun i hi => by
        have := (hx i (by omega)).1
        by_cases hi0 : i = 0
        · subst hi0; simpa [Addr.add] using this
        · simpa [Addr.add, hi0] using this
      have hrow : ∃ cur e' fz, w.heap[b]? = some (.cells cur e' fz) := by
        have := hcell 0 (by omega)
        unfold World.cell? at this
        split at this
        · exact ⟨_, _, _, by assumption⟩
        · cases this
      obtain ⟨cur, e', fz, hcur⟩ := hrow
      have hat : ∀ i, i < len → cur[off + i]? = some (V i) := fun i hi => by
        have := hcell i hi
        unfold World.cell? at this
        simp only [hcur] at this
        simpa using this
      have hbs : b < w.heap.size := (Array.getElem?_eq_some_iff.1 hcur).1
      refine ⟨(List.range len).map f, ?_, ?_, by simp; omega⟩
      · simp only [VR]
        refine .inr ⟨b, off, cap, cur, e', fz, by simp, hbs, hcur, VRs.mk ?_ fun k u hu => ?_, by simpa using hl⟩
        · have := (Array.getElem?_eq_some_iff.1 (hat (len - 1) (by omega))).1
          simp
          omega
        · simp only [List.getElem?_map, List.getElem?_range, Option.map_eq_some_iff] at hu
          obtain ⟨k', hk', rfl⟩ := hu
          have hk : k < len ∧ k' = k := by
            by_cases hh : k < len
            · rw [List.getElem?_range hh] at hk'; cases hk'; exact ⟨hh, rfl⟩
            · rw [List.getElem?_eq_none (by simp; omega)] at hk'; cases hk'
          obtain ⟨hk, rfl⟩ := hk
          refine ⟨V k', ?_, (hf k' hk).1⟩
          rw [List.getElem?_take, if_pos (by simpa using hk), List.getElem?_drop]
          simpa using hat k' hk
      · intro c hcm
        obtain ⟨i, hi, rfl⟩ := List.mem_map.1 hcm
        exact (hf i (by simpa using hi)).2
theorem open_intV {k : IntKind} {t : TypeId} {fuel : Nat} {v : Value} {x : DataW H × List MemPlace} (ht : P.underlying t = some (.int k)) (h : DataW.trod enc P w base spare held fuel t [v] = some x) :
    ∃ av, VR (Cx.old w) av v ∧ ∃ n, av = .int k n ∧ (Lit.int k n).wf = true := by
  obtain ⟨n, h1, _, h2⟩ := DataW.trod_int ht h
  have : v = .int k n := by simpa using h1
  subst this
  exact ⟨.int k n, by simp only [VR], n, rfl, h2⟩
theorem open_boolV {t : TypeId} {fuel : Nat} {v : Value} {x : DataW H × List MemPlace} (ht : P.underlying t = some .bool) (h : DataW.trod enc P w base spare held fuel t [v] = some x) :
    ∃ av, VR (Cx.old w) av v ∧ ∃ b, av = .bool b := by
  obtain ⟨b, h1, _⟩ := DataW.trod_bool ht h
  have : v = .bool b := by simpa using h1
  subst this
  exact ⟨.bool b, by simp only [VR], b, rfl⟩
end
end Go.Abs
