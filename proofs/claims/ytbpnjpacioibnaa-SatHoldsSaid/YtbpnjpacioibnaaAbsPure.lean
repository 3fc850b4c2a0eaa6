/- Calls that are handed nothing of the caller's own memory and give back plain values: they may be proved from empty memory. -/
import Derived.Test.YtbpnjpacioibnaaAbsS
set_option linter.unusedVariables false
set_option linter.unusedSimpArgs false
namespace Go.Abs
open Go Go.RowKit
mutual
/-- nothing of the caller's own memory -/
def AV.far : AV → Bool
  | .undef | .bool _ | .int .. | .str _ | .nilS | .nilP | .nilF | .nilM | .nilI => true
  | .row cs _ | .rptr cs | .agg cs | .tup cs => AV.fars cs
  | .func _ p q => AV.fars p && AV.fars q
  | .iface _ v => AV.far v
  | .ref .. | .own .. | .ptr .. | .map _ | .iter _ => false
def AV.fars : List AV → Bool
  | [] => true
  | x :: l => AV.far x && AV.fars l
end
mutual
/-- plain values -/
def AV.flat : AV → Bool
  | .undef | .bool _ | .int .. | .str _ | .nilS | .nilP | .nilF | .nilM | .nilI => true
  | .agg cs | .tup cs => AV.flats cs
  | _ => false
def AV.flats : List AV → Bool
  | [] => true
  | x :: l => AV.flat x && AV.flats l
end
mutual
theorem VR.far {X Y : Cx} (hF : ∀ b, X.F b → Y.F b) (hw : ∀ b, X.F b → Y.w.heap[b]? = X.w.heap[b]?) : ∀ {v : AV} {x : Value}, v.far = true → VR X v x → VR Y v x
  | .undef, x, _, _ => by simp only [VR]
  | .bool b, x, _, h => by simpa only [VR] using h
  | .int k n, x, _, h => by simpa only [VR] using h
  | .str s, x, _, h => by simpa only [VR] using h
  | .nilS, x, _, h => by simpa only [VR] using h
  | .row cs len, x, f, h => by
    simp only [VR] at h ⊢
    simp only [AV.far] at f
    rcases h with h | ⟨b, off, cap, cur, e, fz, h1, h2, h3, h4, h5⟩
    · exact .inl h
    · exact .inr ⟨b, off, cap, cur, e, fz, h1, hF b h2, (hw b h2).trans h3, VRs.far hF hw f h4, h5⟩
  | .ref .., x, f, _ => by simp [AV.far] at f
  | .own .., x, f, _ => by simp [AV.far] at f
  | .nilP, x, _, h => by simpa only [VR] using h
  | .ptr .., x, f, _ => by simp [AV.far] at f
  | .rptr cs, x, f, h => by
    simp only [VR] at h ⊢
    simp only [AV.far] at f
    obtain ⟨b, off, cur, e, fz, h1, h2, h3, h4⟩ := h
    exact ⟨b, off, cur, e, fz, h1, hF b h2, (hw b h2).trans h3, VRs.far hF hw f h4⟩
  | .agg cs, x, f, h => by
    simp only [VR] at h ⊢
    simp only [AV.far] at f
    obtain ⟨l, h1, h2⟩ := h
    exact ⟨l, h1, VRs.far hF hw f h2⟩
  | .tup cs, x, f, h => by
    simp only [VR] at h ⊢
    simp only [AV.far] at f
    obtain ⟨l, h1, h2⟩ := h
    exact ⟨l, h1, VRs.far hF hw f h2⟩
  | .func g p q, x, f, h => by
    simp only [VR] at h ⊢
    simp only [AV.far, Bool.and_eq_true] at f
    obtain ⟨p', q', h1, h2, h3⟩ := h
    exact ⟨p', q', h1, VRs.far hF hw f.1 h2, VRs.far hF hw f.2 h3⟩
  | .nilF, x, _, h => by simpa only [VR] using h
  | .nilM, x, _, h => by simpa only [VR] using h
  | .map i, x, f, _ => by simp [AV.far] at f
  | .nilI, x, _, h => by simpa only [VR] using h
  | .iface t u, x, f, h => by
    simp only [VR] at h ⊢
    simp only [AV.far] at f
    obtain ⟨y, h1, h2⟩ := h
    exact ⟨y, h1, VR.far hF hw f h2⟩
  | .iter i, x, f, _ => by simp [AV.far] at f
theorem VRs.far {X Y : Cx} (hF : ∀ b, X.F b → Y.F b) (hw : ∀ b, X.F b → Y.w.heap[b]? = X.w.heap[b]?) : ∀ {cs : List AV} {l : List Value}, AV.fars cs = true → VRs X cs l → VRs Y cs l
  | [], l, _, h => by simpa only [VRs] using h
  | v :: vs, l, f, h => by
    simp only [VRs] at h ⊢
    simp only [AV.fars, Bool.and_eq_true] at f
    obtain ⟨y, ys, h1, h2, h3⟩ := h
    exact ⟨y, ys, h1, VR.far hF hw f.1 h2, VRs.far hF hw f.2 h3⟩
end
mutual
theorem VR.flat {X Y : Cx} : ∀ {v : AV} {x : Value}, v.flat = true → VR X v x → VR Y v x
  | .undef, x, _, _ => by simp only [VR]
  | .bool b, x, _, h => by simpa only [VR] using h
  | .int k n, x, _, h => by simpa only [VR] using h
  | .str s, x, _, h => by simpa only [VR] using h
  | .nilS, x, _, h => by simpa only [VR] using h
  | .nilP, x, _, h => by simpa only [VR] using h
  | .nilF, x, _, h => by simpa only [VR] using h
  | .nilM, x, _, h => by simpa only [VR] using h
  | .nilI, x, _, h => by simpa only [VR] using h
  | .agg cs, x, f, h => by
    simp only [VR] at h ⊢
    simp only [AV.flat] at f
    obtain ⟨l, h1, h2⟩ := h
    exact ⟨l, h1, VRs.flat f h2⟩
  | .tup cs, x, f, h => by
    simp only [VR] at h ⊢
    simp only [AV.flat] at f
    obtain ⟨l, h1, h2⟩ := h
    exact ⟨l, h1, VRs.flat f h2⟩
  | .row .., x, f, _ => by simp [AV.flat] at f
  | .ref .., x, f, _ => by simp [AV.flat] at f
  | .own .., x, f, _ => by simp [AV.flat] at f
  | .ptr .., x, f, _ => by simp [AV.flat] at f
  | .rptr _, x, f, _ => by simp [AV.flat] at f
  | .func .., x, f, _ => by simp [AV.flat] at f
  | .map _, x, f, _ => by simp [AV.flat] at f
  | .iface .., x, f, _ => by simp [AV.flat] at f
  | .iter _, x, f, _ => by simp [AV.flat] at f
theorem VRs.flat {X Y : Cx} : ∀ {cs : List AV} {l : List Value}, AV.flats cs = true → VRs X cs l → VRs Y cs l
  | [], l, _, h => by simpa only [VRs] using h
  | v :: vs, l, f, h => by
    simp only [VRs] at h ⊢
    simp only [AV.flats, Bool.and_eq_true] at f
    obtain ⟨y, ys, h1, h2, h3⟩ := h
    exact ⟨y, ys, h1, VR.flat f.1 h2, VRs.flat f.2 h3⟩
end
theorem AV.fars_iff : ∀ {l : List AV}, AV.fars l = true ↔ ∀ x ∈ l, x.far = true
  | [] => by simp [AV.fars]
  | x :: l => by simp [AV.fars, AV.fars_iff (l := l)]
theorem Sem.pure {P : Program} {f : FuncId} {args : List AV} {Q : AV → Prop} (h : Sem P f args Mem.none fun r _ => Q r) (ha : AV.fars args = Bool.true) (hq : ∀ r, Q r → r.flat = Bool.true) (M : Mem) :
    Sem P f args M fun r M' => Q r ∧ M' = M := by
  refine ⟨h.1, fun X xs hM R hx => ?_⟩
  have R0 : Rl ⟨fun _ => none, X.F, Mem.none, X.w⟩ := ⟨nofun, nofun, R.Flt, nofun, nofun, nofun, nofun⟩
  refine (h.2 ⟨fun _ => none, X.F, Mem.none, X.w⟩ xs rfl R0 (VRs.far (X := X) (Y := ⟨fun _ => none, X.F, Mem.none, X.w⟩) (fun _ h => h) (fun _ _ => rfl) ha hx)).mono ?_
  rintro e w' ⟨Y, r, x, rfl, rfl, hK, _, E, hv⟩
  obtain ⟨R1, E1⟩ := Cx.below_ok R (w := Y.w) ⟨E.os, E.tape, E.output, E.size, fun b hb => E.keep b hb nofun⟩
  exact ⟨{ X with w := Y.w }, r, x, rfl, rfl, ⟨hK, hM⟩, R1, E1, VR.flat (hq r hK) hv⟩
end Go.Abs
