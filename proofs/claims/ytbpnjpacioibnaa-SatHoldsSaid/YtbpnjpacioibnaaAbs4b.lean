/- maps: what is found. -/
import Derived.Test.YtbpnjpacioibnaaAbs4
set_option linter.unusedVariables false
set_option linter.unusedSimpArgs false
namespace Go.Abs
open Go Go.RowKit
section
variable {P : Program} {X : Cx}
theorem azero_ok {T : Tab} (hT : TabOk P T) {t : TypeId} {te : TE} (hte : T t = some te) {z : AV} (h : azero te = some z) : ∃ zv, (∀ w, (zeroValue t).run P w = .ok zv w) ∧ VR X z zv := by
  obtain ⟨i, d, zv, hi, hd, hz, _, _, hk, hzz, hf⟩ := hT.get' hte
  refine ⟨zv, fun w => by simp [zeroValue, typeInfo, hi, hz], ?_⟩
  have hv := avOfs_ok X zv.cells.toList
  rw [hzz] at hv
  unfold azero at h
  cases ha : te.isAgg with
  | true =>
    rw [ha] at h
    cases h
    unfold TE.isAgg at ha
    split at ha
    · rename_i fs hfs
      rw [hfs] at hf
      cases zv <;> simp only [zfit] at hf <;> first | (cases hf; done) | skip
      simp only [VR]
      exact ⟨_, rfl, hv⟩
    · cases ha
  | false =>
    rw [ha] at h
    cases hs : te.scalar with
    | false => rw [hs] at h; cases h
    | true =>
      rw [hs] at h
      simp only [cond_false, cond_true] at h
      have hone : zv.cells = #[zv] := by
        have hns : ∀ fs, te.k ≠ .struct fs := fun fs e => by simp [TE.isAgg, e] at ha
        cases zv <;> first | rfl | (exfalso; revert hf; cases hk' : te.k <;> simp [zfit]; exact hns _ hk')
      rw [hone] at hzz
      simp only [List.map_cons, List.map_nil] at hzz
      rw [← hzz] at h
      cases h
      exact avOf_ok X zv
theorem findNow_ok {d : TypeDesc} {tk : TE} (hk : mkTK P d = tk.k) {k : AV} {x : Value} (hf : kfits tk.k k = true) (hx : VR X k x) : ∀ {es : List (AV × AV × Nat)} {ms : List MapEntry} {n : Nat} {r : Option (Nat × AV × Nat)}, afind k es n = some r → MR X es ms →
    (r = none ∧ Instr.findNow d x ms n = some none) ∨ ∃ j v b m, r = some (j, v, b) ∧ Instr.findNow d x ms n = some (some (j, m.val)) ∧ n ≤ j ∧ ms[j - n]? = some m ∧ VR X v m.val ∧ m.born = b ∧ Instr.sameNow d x m.key = some true ∧ VR X k m.key ∧ (∃ kk, es[j - n]? = some (kk, v, b)) ∧ m.key = x
  | [], ms, n, r, h, hm => by
    cases h
    obtain rfl : ms = [] := hm
    exact .inl ⟨rfl, rfl⟩
  | (k', v, b) :: es, ms, n, r, h, hm => by
    obtain ⟨m, ms', rfl, h1, h2, h3, h4⟩ := hm
    simp only [afind] at h
    have key : ∀ c, akey k k' = some c → Instr.sameNow d x m.key = some c ∧ (c = true → m.key = x) := fun c hc => by
      unfold akey at hc
      split at hc
      · rename_i ka a kb b'
        simp only [VR] at hx h1
        subst hx
        have hd : ∃ kk, d = .int kk := by
          cases hk2 : tk.k <;> rw [hk2] at hf <;> simp only [kfits] at hf <;> first | (cases hf; done) | skip
          rw [hk2] at hk
          exact ⟨_, mkTK_int hk⟩
        obtain ⟨kk, rfl⟩ := hd
        rw [h1]
        by_cases hkk : ka = kb
        · subst hkk
          simp only [decide_true, cond_true] at hc
          cases hc
          refine ⟨by simp [Instr.sameNow], fun hc => ?_⟩
          rw [eq_of_beq hc]
        · simp [hkk] at hc
      · simp only [VR] at hx h1
        subst hx
        have hd : d = .bool := by
          cases hk2 : tk.k <;> rw [hk2] at hf <;> simp only [kfits] at hf <;> first | (cases hf; done) | skip
          rw [hk2] at hk
          exact mkTK_bool hk
        subst hd
        rw [h1]
        cases hc
        exact ⟨rfl, fun hc => by rw [eq_of_beq hc]⟩
      · simp only [VR] at hx h1
        subst hx
        have hd : d = .string := by
          cases hk2 : tk.k <;> rw [hk2] at hf <;> simp only [kfits] at hf <;> first | (cases hf; done) | skip
          rw [hk2] at hk
          exact mkTK_str hk
        subst hd
        rw [h1]
        cases hc
        refine ⟨rfl, fun hc => ?_⟩
        rename_i sa sb
        have e : sa = sb := ByteArray.ext (eq_of_beq (show (sa.data == sb.data) = true from hc))
        rw [e]
      · cases hc
    split at h
    · rename_i hc
      cases h
      obtain ⟨hs, he⟩ := key true hc
      have he := he rfl
      refine .inr ⟨n, v, b, m, rfl, by simp [Instr.findNow, hs], Nat.le_refl _, by simp, h2, h3, hs, by rw [he]; exact hx, ⟨k', by simp⟩, he⟩
    · rename_i hc
      obtain ⟨hs, _⟩ := key false hc
      rcases findNow_ok hk hf hx h h4 with ⟨rfl, h5⟩ | ⟨j, v', b', m', rfl, h5, h6, h7, h8, h9, h10, h11, ⟨kk, h12⟩, h13⟩
      · exact .inl ⟨rfl, by simp [Instr.findNow, hs, h5]⟩
      · refine .inr ⟨j, v', b', m', rfl, by simp [Instr.findNow, hs, h5], by omega, ?_, h8, h9, h10, h11, ⟨kk, ?_⟩, h13⟩
        · rw [show j - n = (j - (n + 1)) + 1 by omega]; simpa using h7
        · rw [show j - n = (j - (n + 1)) + 1 by omega]; simpa using h12
    · cases h
theorem checkKey_ok {kt : TypeId} {d : TypeDesc} (hd : P.underlying kt = some d) {tk : TE} (hk : mkTK P d = tk.k) {k : AV} {x : Value} (hf : kfits tk.k k = true) (hx : VR X k x) (b : Bool) (w : World) : (Instr.checkKey b 10000 kt x).run P w = .ok () w := by
  obtain ⟨n, hn⟩ : ∃ n, Instr.checkKey b 10000 kt x = Instr.checkKey b (n + 1) kt x := ⟨9999, rfl⟩
  rw [hn]
  cases hk2 : tk.k <;> rw [hk2] at hf hk <;> cases k <;> simp only [kfits] at hf <;> first | (cases hf; done) | skip
  · obtain rfl := mkTK_int hk
    simp only [VR] at hx; subst hx
    simp [Instr.checkKey, run_underlying hd]
  · obtain rfl := mkTK_bool hk
    simp only [VR] at hx; subst hx
    simp [Instr.checkKey, run_underlying hd]
  · obtain rfl := mkTK_str hk
    simp only [VR] at hx; subst hx
    simp [Instr.checkKey, run_underlying hd]
theorem findKey_ok {kt : TypeId} {d : TypeDesc} (hd : P.underlying kt = some d) {x : Value} {ms : List MapEntry} {r : Option (Nat × Value)} (h : Instr.findNow d x ms 0 = some r) (w : World) : (Instr.findKey kt x ms).run P w = .ok r w := by
  simp [Instr.findKey, run_underlying hd, h]
theorem Rl.mapAt (R : Rl X) {i : Nat} {es : List (AV × AV × Nat)} {c : Nat} {x : Value} (hg : X.M.get i = some (.map es c)) (h : VR X (.map i) x) :
    ∃ b ms, X.ι i = some b ∧ x = .map (some b) ∧ X.w.heap[b]? = some (.map ms c) ∧ MR X es ms.toList ∧ ¬ X.F b := by
  simp only [VR] at h
  obtain ⟨r, rfl, h | ⟨b, es', c', h1, h2, rfl⟩⟩ := h
  · rw [h.2] at hg; cases hg
  · obtain ⟨⟨ms, a1, a2⟩, a3⟩ := R.map i b es c hg h2
    exact ⟨b, ms, h2, rfl, a1, a2, a3⟩
theorem alookup_ok {T : Tab} (hT : TabOk P T) (R : Rl X) {t : TypeId} {m k r : AV} {ok : Bool} {x y : Value} (h : alookup T X.M t m k ok = some r) (hx : VR X m x) (hy : VR X k y) : ∃ z, (Instr.lookup t x y ok).run P X.w = .ok z X.w ∧ VR X r z := by
  unfold alookup at h
  split at h
  case h_2 => cases h
  rename_i kt e _ hte
  obtain ⟨_, d, _, _, hd, _, _, _, hk, _⟩ := hT.get hte
  obtain rfl := mkTK_map hk
  split at h
  case h_2 => cases h
  rename_i tk te htk hee
  obtain ⟨_, dk, _, _, hdk, _, _, _, hkk, _⟩ := hT.get htk
  cases hf : kfits tk.k k with
  | false => rw [hf] at h; cases h
  | true =>
    rw [hf] at h
    simp only [cond_true] at h
    have hck := checkKey_ok hdk hkk hf hy
    split at h
    · rename_i z hz
      cases h
      simp only [VR] at hx
      subst hx
      obtain ⟨zv, hzr, hzv⟩ := azero_ok (X := X) hT hee hz
      have hfk : (Instr.findKey kt y []).run P X.w = .ok none X.w := findKey_ok hdk rfl _
      refine ⟨if ok then .tuple #[zv, .bool false] else zv, ?_, ?_⟩
      · simp [Instr.lookup, run_underlying hd, hck, hfk, hzr]
      · cases ok with
        | true => simp only [cond_true, if_true, VR]; exact ⟨_, rfl, _, _, rfl, hzv, _, _, rfl, by simp only [VR], rfl⟩
        | false => simpa using hzv
    · rename_i z i hz
      split at h
      · rename_i es c hg
        obtain ⟨b, ms, _, rfl, hb, hmr, _⟩ := R.mapAt hg hx
        have hgo : (getObj b).run P X.w = .ok (.map ms c) X.w := by simp only [getObj, Sem.run, hb]
        split at h
        · rename_i j v bo hfd
          cases h
          rcases findNow_ok hkk hf hy hfd hmr with ⟨h0, _⟩ | ⟨j', v', b', m', h0, h5, _, _, h8, _⟩
          · cases h0
          · cases h0
            refine ⟨if ok then .tuple #[m'.val, .bool true] else m'.val, ?_, ?_⟩
            · simp [Instr.lookup, run_underlying hd, hgo, hck, findKey_ok hdk h5]
            · cases ok with
              | true => simp only [cond_true, if_true, VR]; exact ⟨_, rfl, _, _, rfl, h8, _, _, rfl, by simp only [VR], rfl⟩
              | false => simpa using h8
        · rename_i hfd
          cases h
          rcases findNow_ok hkk hf hy hfd hmr with ⟨_, h5⟩ | ⟨_, _, _, _, h0, _⟩
          · obtain ⟨zv, hzr, hzv⟩ := azero_ok (X := X) hT hee hz
            refine ⟨if ok then .tuple #[zv, .bool false] else zv, ?_, ?_⟩
            · simp [Instr.lookup, run_underlying hd, hgo, hck, findKey_ok hdk h5, hzr]
            · cases ok with
              | true => simp only [cond_true, if_true, VR]; exact ⟨_, rfl, _, _, rfl, hzv, _, _, rfl, by simp only [VR], rfl⟩
              | false => simpa using hzv
          · cases h0
        · cases h
      · cases h
    · cases h
end
end Go.Abs
