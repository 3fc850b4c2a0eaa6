/- maps: what is written. -/
import Derived.Test.YtbpnjpacioibnaaAbs8
set_option linter.unusedVariables false
set_option linter.unusedSimpArgs false
namespace Go.Abs
open Go Go.RowKit
theorem Cx.allocM_ok (X : Cx) (R : Rl X) : Rl ((X.plus (.map [] 0)).born X.M.next (.map #[] 0)) ∧ Ev X ((X.plus (.map [] 0)).born X.M.next (.map #[] 0)) := by
  obtain ⟨R1, E1⟩ := X.plus_ok R (.map [] 0)
  have E2 := Cx.born_ev0 _ R1 R.fresh.2 (.map #[] 0)
  have hnew : ∀ {j b}, ((X.plus (.map [] 0)).born X.M.next (.map #[] 0)).ι j = some b → (j = X.M.next ∧ b = X.w.heap.size) ∨ (j ≠ X.M.next ∧ X.ι j = some b) := fun {j b} h => by
    simp only [Cx.born, Cx.plus] at h
    split at h
    · rename_i h0; exact .inl ⟨h0, (Option.some.inj h).symm⟩
    · rename_i h0; exact .inr ⟨h0, h⟩
  have hgn : ∀ {j o}, j ≠ X.M.next → (X.M.add (.map [] 0)).get j = some o → X.M.get j = some o := fun {j o} hj h => by rwa [get_add_ne hj] at h
  refine ⟨⟨fun j k b h h' => ?_, fun j b h => ?_, fun b h => ?_, R1.dom, fun j b e2 sz2 fz2 cs2 h h' => ?_, fun j b s p h h' => ?_, fun j b es c h h' => ?_⟩, E1.toEv0.trans E2 R, fun i o h h' => ?_⟩
  · rcases hnew h with ⟨rfl, rfl⟩ | ⟨_, h1⟩ <;> rcases hnew h' with ⟨rfl, h2⟩ | ⟨_, h2⟩
    · rfl
    · exact absurd (R.lt _ _ h2).2 (Nat.lt_irrefl _)
    · subst h2; exact absurd (R.lt _ _ h1).2 (Nat.lt_irrefl _)
    · exact R.inj _ _ _ h1 h2
  · show j < X.M.next + 1 ∧ b < (X.w.alloc _).heap.size
    simp only [World.size_alloc]
    rcases hnew h with ⟨rfl, rfl⟩ | ⟨_, h1⟩
    · omega
    · have := R.lt _ _ h1; omega
  · have := R.Flt b h
    show b < (X.w.alloc _).heap.size
    simp only [World.size_alloc]; omega
  · have h : (X.M.add (.map [] 0)).get j = some (.cells e2 sz2 fz2 cs2) := h
    rcases hnew h' with ⟨rfl, rfl⟩ | ⟨hne, h1⟩
    · rw [get_add_eq] at h; cases h
    · obtain ⟨⟨cur2, a1, a2, a3⟩, b2, c2⟩ := R.cells j b e2 sz2 fz2 cs2 (hgn hne h) h1
      exact ⟨⟨cur2, (heap_alloc_old' _ _ (R.lt _ _ h1).2).trans a1, a2, E2.vrs R1 (E1.vrs R a3)⟩, b2, c2⟩
  · have h : (X.M.add (.map [] 0)).get j = some (.sit s p) := h
    rcases hnew h' with ⟨rfl, rfl⟩ | ⟨hne, h1⟩
    · rw [get_add_eq] at h; cases h
    · obtain ⟨a, c⟩ := R.sit j b s p (hgn hne h) h1
      exact ⟨(heap_alloc_old' _ _ (R.lt _ _ h1).2).trans a, c⟩
  · have h : (X.M.add (.map [] 0)).get j = some (.map es c) := h
    rcases hnew h' with ⟨rfl, rfl⟩ | ⟨hne, h1⟩
    · rw [get_add_eq] at h
      obtain ⟨rfl, rfl⟩ : [] = es ∧ 0 = c := by simpa using h
      exact ⟨⟨#[], heap_alloc_new' _ _, rfl⟩, fun hF => absurd (R.Flt _ hF) (Nat.lt_irrefl _)⟩
    · obtain ⟨⟨ms, a1, a3⟩, c2⟩ := R.map j b es c (hgn hne h) h1
      exact ⟨⟨ms, (heap_alloc_old' _ _ (R.lt _ _ h1).2).trans a1, E2.mr R1 (E1.mr R a3)⟩, c2⟩
  · have hne := Nat.ne_of_lt (R.dom i o h)
    exact ⟨by show (X.M.add _).get i = some o; rw [get_add_ne hne, h], by simp [Cx.born, Cx.plus, hne, h']⟩
theorem Cx.putM_ok (X : Cx) (R : Rl X) {i b c c' : Nat} {es es' : List (AV × AV × Nat)} {ms' : Array MapEntry} (hg : X.M.get i = some (.map es c)) (hb : X.ι i = some b) (hm : MR X es' ms'.toList) :
    Rl { X with M := X.M.set i (.map es' c'), w := { X.w with heap := X.w.heap.setIfInBounds b (.map ms' c') } } ∧ Ev X { X with M := X.M.set i (.map es' c'), w := { X.w with heap := X.w.heap.setIfInBounds b (.map ms' c') } } := by
  have hlt := (R.lt i b hb).2
  have hself := get_set_eq (o := .map es' c') hg
  have hFb := (R.map i b es c hg hb).2
  have hoth : ∀ k, k ≠ b → (X.w.heap.setIfInBounds b (.map ms' c'))[k]? = X.w.heap[k]? := fun k hk => Array.getElem?_setIfInBounds_ne (Ne.symm hk)
  have hnb : (X.w.heap.setIfInBounds b (.map ms' c'))[b]? = some (.map ms' c') := Array.getElem?_setIfInBounds_self_of_lt hlt
  have E : Ev X { X with M := X.M.set i (.map es' c'), w := { X.w with heap := X.w.heap.setIfInBounds b (.map ms' c') } } := by
    refine ⟨⟨rfl, rfl, rfl, by simp, Nat.le_refl _, fun _ h => h, fun _ h => .inl h, fun k hk h => ?_, fun _ _ h => .inl h, fun j _ h => ?_, fun j e2 sz2 fz2 cs2 h => ?_, fun j es2 c2 h => ?_, fun j s p h => ?_⟩, fun j o h h' => ?_⟩
    · exact hoth k fun e' => by subst e'; have := h i _ hb hg; simp [AO.open] at this
    · show (X.M.set i _).get j = none
      have hne : j ≠ i := fun e' => by subst e'; rw [hg] at h; cases h
      rw [get_set_ne hne]; exact h
    · have hj : j ≠ i := fun e' => by subst e'; rw [hg] at h; cases h
      exact .inr ⟨fz2, cs2, (get_set_ne hj).trans h, Nat.le_refl _, id, fun _ b' hb' => ⟨hb', fun c e' f hc' => ⟨c, (hoth b' fun e' => hj (R.inj _ _ _ (e' ▸ hb') hb)).trans hc', rfl⟩⟩⟩
    · by_cases hj : j = i
      · subst hj; exact .inr ⟨es', c', hself, fun _ h => h⟩
      · exact .inr ⟨es2, c2, (get_set_ne hj).trans h, fun _ h => h⟩
    · have hj : j ≠ i := fun e' => by subst e'; rw [hg] at h; cases h
      exact .inr ⟨s, p, (get_set_ne hj).trans h, fun _ h => h⟩
    · have hj : j ≠ i := fun e' => by subst e'; rw [hb] at h'; cases h'
      exact ⟨(get_set_ne hj).trans h, h'⟩
  refine ⟨⟨R.inj, fun j b' h => ⟨(R.lt j b' h).1, by simpa using (R.lt j b' h).2⟩, fun b' h => by simpa using R.Flt b' h, fun j o h => ?_, fun j b' e2 sz2 fz2 cs2 h h' => ?_, fun j b' s p h h' => ?_, fun j b' es2 c2 h h' => ?_⟩, E⟩
  · by_cases hj : j = i
    · subst hj; exact R.dom _ _ hg
    · exact R.dom _ _ ((get_set_ne hj).symm.trans h)
  · have hj : j ≠ i := fun e' => by subst e'; cases hself.symm.trans h
    obtain ⟨⟨cur2, a1, a2, a3⟩, b2, c3⟩ := R.cells j b' e2 sz2 fz2 cs2 ((get_set_ne hj).symm.trans h) h'
    exact ⟨⟨cur2, (hoth b' fun e' => hj (R.inj _ _ _ (e' ▸ h') hb)).trans a1, a2, E.vrs R a3⟩, b2, c3⟩
  · have hj : j ≠ i := fun e' => by subst e'; cases hself.symm.trans h
    obtain ⟨a, c3⟩ := R.sit j b' s p ((get_set_ne hj).symm.trans h) h'
    exact ⟨(hoth b' fun e' => hj (R.inj _ _ _ (e' ▸ h') hb)).trans a, c3⟩
  · by_cases hj : j = i
    · subst hj
      have h := hself.symm.trans h
      obtain ⟨rfl, rfl⟩ : es' = es2 ∧ c' = c2 := by simpa using h
      have e1 : b = b' := Option.some.inj (hb.symm.trans h')
      subst e1
      exact ⟨⟨ms', hnb, E.mr R hm⟩, hFb⟩
    · obtain ⟨⟨ms, a1, a3⟩, c3⟩ := R.map j b' es2 c2 ((get_set_ne hj).symm.trans h) h'
      exact ⟨⟨ms, (hoth b' fun e' => hj (R.inj _ _ _ (e' ▸ h') hb)).trans a1, E.mr R a3⟩, c3⟩
section
variable {P : Program} {X : Cx}
theorem MR.set {k v : AV} {x y : Value} {b : Nat} (hk : VR X k x) (hv : VR X v y) : ∀ {es : List (AV × AV × Nat)} {l : List MapEntry} {j : Nat} {kk u : AV}, MR X es l → es[j]? = some (kk, u, b) → MR X (es.set j (k, v, b)) (l.modify j fun e => { e with key := x, val := y })
  | [], l, j, kk, u, _, h => by cases h
  | (k1, v1, b1) :: es, l, j, kk, u, hm, h => by
    obtain ⟨m, ms, rfl, h1, h2, h3, h4⟩ := hm
    cases j with
    | zero =>
      simp at h
      obtain ⟨rfl, rfl, rfl⟩ := h
      simp only [List.set_cons_zero, List.modify_zero_cons]
      exact ⟨_, _, rfl, hk, hv, h3, h4⟩
    | succ j =>
      simp only [List.set_cons_succ, List.modify_succ_cons]
      exact ⟨_, _, rfl, h1, h2, h3, MR.set hk hv h4 (by simpa using h)⟩
theorem MR.snoc {k v : AV} {m : MapEntry} {b : Nat} (hk : VR X k m.key) (hv : VR X v m.val) (hb : m.born = b) : ∀ {es : List (AV × AV × Nat)} {l : List MapEntry}, MR X es l → MR X (es ++ [(k, v, b)]) (l ++ [m])
  | [], l, h => by obtain rfl : l = [] := h; exact ⟨m, [], rfl, hk, hv, hb, rfl⟩
  | (k1, v1, b1) :: es, l, h => by
    obtain ⟨m1, ms, rfl, h1, h2, h3, h4⟩ := h
    exact ⟨m1, _, rfl, h1, h2, h3, MR.snoc hk hv hb h4⟩
theorem MR.erase : ∀ {es : List (AV × AV × Nat)} {l : List MapEntry} (j : Nat), MR X es l → MR X (es.eraseIdx j) (l.eraseIdx j)
  | [], l, j, h => by obtain rfl : l = [] := h; exact rfl
  | (k1, v1, b1) :: es, l, j, h => by
    obtain ⟨m1, ms, rfl, h1, h2, h3, h4⟩ := h
    cases j with
    | zero => exact h4
    | succ j => exact ⟨m1, _, rfl, h1, h2, h3, MR.erase j h4⟩
theorem MR.born {n : Int} {v : AV} {y : Value} (hv : VR X v y) : ∀ {es es' : List (AV × AV × Nat)} {l : List MapEntry}, MR X es l → setBorn n v es = some es' → ∃ j, l.findIdx? (fun e => (e.born : Int) == n) = some j ∧ MR X es' (l.modify j fun e => { e with val := y })
  | [], es', l, _, h => by cases h
  | (k1, v1, b1) :: es, es', l, hm, h => by
    obtain ⟨m, ms, rfl, h1, h2, h3, h4⟩ := hm
    simp only [setBorn] at h
    cases hd : decide ((b1 : Int) = n) with
    | true =>
      rw [hd] at h
      cases h
      have e := of_decide_eq_true hd
      refine ⟨0, ?_, ?_⟩
      · rw [List.findIdx?_cons, if_pos (by rw [h3]; simpa using e)]
      · simp only [List.modify_zero_cons]; exact ⟨_, _, rfl, h1, hv, h3, h4⟩
    | false =>
      rw [hd] at h
      obtain ⟨es2, he, rfl⟩ := Option.map_eq_some_iff.1 h
      obtain ⟨j, hj, hm2⟩ := MR.born hv h4 he
      have e := of_decide_eq_false hd
      refine ⟨j + 1, ?_, ?_⟩
      · rw [List.findIdx?_cons, if_neg (by rw [h3]; simpa using e), hj]; rfl
      · simp only [List.modify_succ_cons]; exact ⟨_, _, rfl, h1, h2, h3, hm2⟩
theorem MR.len : ∀ {es : List (AV × AV × Nat)} {l : List MapEntry}, MR X es l → l.length = es.length
  | [], l, h => by obtain rfl : l = [] := h; rfl
  | (k1, v1, b1) :: es, l, h => by
    obtain ⟨m1, ms, rfl, _, _, _, h4⟩ := h
    simp [MR.len h4]
theorem ba_beq (s : ByteArray) : (s == s) = true := show (s.data == s.data) = true from beq_self_eq_true _
theorem stays_ok {tk : TE} {k : AV} {x : Value} (hf : kfits tk.k k = true) (hx : VR X k x) (w : World) : (Instr.keyThatStays x x).run P w = .ok x w := by
  obtain ⟨n, hn⟩ : ∃ n, Instr.keyThatStays x x = (do if Instr.sameBits n x x then pure x else pure (if (← choose (.extern "map.whichKeyStays" 2)) = 0 then x else x)) := ⟨10000, rfl⟩
  rw [hn]
  have : Instr.sameBits n x x = true := by
    cases hk2 : tk.k <;> rw [hk2] at hf <;> cases k <;> simp only [kfits] at hf <;> first | (cases hf; done) | skip
    all_goals (simp only [VR] at hx; subst hx; simp [Instr.sameBits, ba_beq])
  rw [this]; rfl
theorem mapKey_ok {T : Tab} (hT : TabOk P T) {t : TypeId} {k : AV} (h : mapKey T t k = true) : ∃ kt e d tk, P.underlying t = some (.map kt e) ∧ P.underlying kt = some d ∧ mkTK P d = TE.k tk ∧ kfits tk.k k = true := by
  unfold mapKey at h
  split at h
  · rename_i kt e _ hte
    obtain ⟨_, d, _, _, hd, _, _, _, hk, _⟩ := hT.get hte
    obtain rfl := mkTK_map hk
    split at h
    · rename_i tk htk
      obtain ⟨_, dk, _, _, hdk, _, _, _, hkk, _⟩ := hT.get htk
      exact ⟨kt, _, dk, tk, hd, hdk, hkk, h⟩
    · cases h
  · cases h
theorem run_setObj_map (w : World) {b c : Nat} {ms : Array MapEntry} (h : w.heap[b]? = some (.map ms c)) (o : Obj) : (setObj b o).run P w = .ok () { w with heap := w.heap.setIfInBounds b o } := by
  simp only [setObj, Sem.run, h]
theorem run_getObj_map (w : World) {b c : Nat} {ms : Array MapEntry} (h : w.heap[b]? = some (.map ms c)) : (getObj b).run P w = .ok (.map ms c) w := by
  simp only [getObj, Sem.run, h]
theorem mapUpd_ok {T : Tab} (hT : TabOk P T) (R : Rl X) {t : TypeId} {m k v : AV} {x y z : Value} {M' : Mem} (h : amapUpd T X.M t m k v = some M') (hx : VR X m x) (hy : VR X k y) (hz : VR X v z) :
    ∃ Y, Y.M = M' ∧ Rl Y ∧ Ev X Y ∧ (Instr.mapUpdate t x y z).run P X.w = .ok () Y.w := by
  unfold amapUpd at h
  split at h
  case h_2 => cases h
  rename_i i
  split at h
  case h_2 => cases h
  rename_i es c hg
  cases hmk : mapKey T t k with
  | false => rw [hmk] at h; cases h
  | true =>
    rw [hmk] at h
    simp only [cond_true] at h
    obtain ⟨kt, e, d, tk, hd, hdk, hkk, hf⟩ := mapKey_ok hT hmk
    obtain ⟨b, ms, hb, rfl, hh, hmr, _⟩ := R.mapAt hg hx
    have hck := checkKey_ok hdk hkk hf hy
    split at h
    · rename_i j u bo hfd
      cases h
      rcases findNow_ok hkk hf hy hfd hmr with ⟨h0, _⟩ | ⟨j', v', b', m', h0, h5, _, h7, h8, _, _, _, ⟨kk, h12⟩, h13⟩
      · cases h0
      · cases h0
        simp only [Nat.sub_zero] at h7 h12
        have hset : setVal es j k v = es.set j (k, v, bo) := by simp [setVal, h12]
        obtain ⟨R1, E1⟩ := X.putM_ok R (c' := c) (ms' := ms.modify j fun e => { e with key := y, val := z }) hg hb (by rw [Array.toList_modify]; exact MR.set hy hz hmr h12)
        rw [← hset] at R1 E1
        refine ⟨_, rfl, R1, E1, ?_⟩
        have hmj : ms[j]? = some m' := by simpa using h7
        simp [Instr.mapUpdate, run_underlying hd, run_getObj_map X.w hh, hck, findKey_ok hdk h5, hmj, h13, stays_ok hf hy, run_setObj_map X.w hh]
    · rename_i hfd
      cases h
      rcases findNow_ok hkk hf hy hfd hmr with ⟨_, h5⟩ | ⟨_, _, _, _, h0, _⟩
      · obtain ⟨R1, E1⟩ := X.putM_ok R (c' := c + 1) (es' := es ++ [(k, v, c)]) (ms' := ms.push { key := y, val := z, born := c }) hg hb (by rw [Array.toList_push]; exact MR.snoc (m := { key := y, val := z, born := c }) hy hz rfl hmr)
        refine ⟨_, rfl, R1, E1, ?_⟩
        simp [Instr.mapUpdate, run_underlying hd, run_getObj_map X.w hh, hck, findKey_ok hdk h5, run_setObj_map X.w hh]
      · cases h0
    · cases h
theorem mapEntry_ok {T : Tab} (hT : TabOk P T) (R : Rl X) {t : TypeId} {m k r : AV} {x y : Value} {M' : Mem} (h : amapEntry T X.M t m k = some (r, M')) (hx : VR X m x) (hy : VR X k y) :
    Step X M' r fun w' v => (Instr.mapEntry t x y).run P X.w = .ok v w' := by
  unfold amapEntry at h
  split at h
  case h_2 => cases h
  rename_i i _ _ kt0 e0 _ hte
  obtain ⟨_, d0, _, _, hd0, _, _, _, hk0, _⟩ := hT.get hte
  obtain rfl := mkTK_map hk0
  split at h
  case h_2 => cases h
  rename_i es c te hg hee
  cases hmk : mapKey T t k with
  | false => rw [hmk] at h; cases h
  | true =>
    rw [hmk] at h
    simp only [cond_true] at h
    obtain ⟨kt, e, d, tk, hd, hdk, hkk, hf⟩ := mapKey_ok hT hmk
    rw [hd0] at hd
    obtain ⟨rfl, rfl⟩ : kt0 = kt ∧ e0 = e := by simpa using hd
    obtain ⟨b, ms, hb, rfl, hh, hmr, _⟩ := R.mapAt hg hx
    have hck := checkKey_ok hdk hkk hf hy
    split at h
    · rename_i j u bo hfd
      cases h
      rcases findNow_ok hkk hf hy hfd hmr with ⟨h0, _⟩ | ⟨j', v', b', m', h0, h5, _, h7, h8, h9, _, _, ⟨kk, h12⟩, h13⟩
      · cases h0
      · cases h0
        simp only [Nat.sub_zero] at h7 h12
        have hmj : ms[j]? = some m' := by simpa using h7
        have hsame : ms.modify j (fun e => { e with key := y }) = ms := by
          apply Array.ext_getElem?
          intro q
          rw [Array.getElem?_modify]
          split
          · rename_i hq; subst hq; rw [hmj]; simp [← h13]
          · rfl
        have hws : ({ X.w with heap := X.w.heap.setIfInBounds b (.map ms c) } : World) = X.w := by
          have : X.w.heap.setIfInBounds b (.map ms c) = X.w.heap := by
            apply Array.ext_getElem?
            intro q
            rw [Array.getElem?_setIfInBounds]
            split
            · rename_i hq; subst hq; rw [hh]; simp; exact (R.lt i b hb).2
            · rfl
          rw [this]
        refine ⟨X, .tuple #[m'.val, goInt m'.born], rfl, R, Ev.refl X, ?_, ?_⟩
        · simp only [VR]; exact ⟨_, rfl, _, _, rfl, h8, _, _, rfl, by simp only [VR, goInt]; rw [h9], rfl⟩
        · have hrun : (Instr.mapEntry t (.map (some b)) y).run P X.w = .ok (.tuple #[m'.val, goInt m'.born]) { X.w with heap := X.w.heap.setIfInBounds b (.map (ms.modify j fun e => { e with key := y }) c) } := by
            simp [Instr.mapEntry, run_underlying hd0, run_getObj_map X.w hh, hck, findKey_ok hdk h5, hmj, h13, stays_ok hf hy, run_setObj_map X.w hh]
          rw [hsame, hws] at hrun
          exact hrun
    · rename_i z hfd hz
      cases h
      rcases findNow_ok hkk hf hy hfd hmr with ⟨_, h5⟩ | ⟨_, _, _, _, h0, _⟩
      · obtain ⟨zv, hzr, hzv⟩ := azero_ok (X := X) hT hee hz
        obtain ⟨R1, E1⟩ := X.putM_ok R (c' := c + 1) (es' := es ++ [(k, z, c)]) (ms' := ms.push { key := y, val := zv, born := c }) hg hb (by rw [Array.toList_push]; exact MR.snoc (m := { key := y, val := zv, born := c }) hy hzv rfl hmr)
        refine ⟨_, .tuple #[zv, goInt c], rfl, R1, E1, ?_, ?_⟩
        · simp only [VR]; exact ⟨_, rfl, _, _, rfl, E1.vr R hzv, _, _, rfl, by simp only [VR, goInt], rfl⟩
        · simp [Instr.mapEntry, run_underlying hd0, run_getObj_map X.w hh, hck, findKey_ok hdk h5, run_setObj_map X.w hh, hzr]
      · cases h0
    · cases h
theorem entryStore_ok (R : Rl X) {m n v : AV} {x y z : Value} {t : TypeId} {M' : Mem} (h : aentryStore X.M m n v = some M') (hx : VR X m x) (hy : VR X n y) (hz : VR X v z) :
    ∃ Y, Y.M = M' ∧ Rl Y ∧ Ev X Y ∧ (Instr.entryStore t x y z).run P X.w = .ok () Y.w := by
  unfold aentryStore at h
  split at h
  case h_2 => cases h
  rename_i i q
  simp only [VR] at hy
  subst hy
  split at h
  case h_2 => cases h
  rename_i es c hg
  obtain ⟨es', hes, rfl⟩ := Option.map_eq_some_iff.1 h
  obtain ⟨b, ms, hb, rfl, hh, hmr, _⟩ := R.mapAt hg hx
  obtain ⟨j, hj, hmr2⟩ := MR.born hz hmr hes
  obtain ⟨R1, E1⟩ := X.putM_ok R (c' := c) (ms' := ms.modify j fun e => { e with val := z }) hg hb (by rw [Array.toList_modify]; exact hmr2)
  have hfi : ms.findIdx? (fun e => (e.born : Int) == q) = some j := by
    have e : ∀ (ms : Array MapEntry) (p : MapEntry → Bool), ms.findIdx? p = ms.toList.findIdx? p := fun ms p => by cases ms; simp
    rw [e]; exact hj
  exact ⟨_, rfl, R1, E1, by simp [Instr.entryStore, asInt, asIntOf, run_getObj_map X.w hh, hfi, run_setObj_map X.w hh]⟩
theorem delete_ok {T : Tab} (hT : TabOk P T) (R : Rl X) {t u ty : TypeId} {m k : AV} {x y : Value} {M' : Mem} (h : adelete T X.M t m k = some M') (hx : VR X m x) (hy : VR X k y) :
    ∃ Y, Y.M = M' ∧ Rl Y ∧ Ev X Y ∧ (Builtin.delete_ #[t, u] ty #[x, y]).run P X.w = .ok (.tuple #[]) Y.w := by
  unfold adelete at h
  split at h
  case h_2 => cases h
  rename_i i
  split at h
  case h_2 => cases h
  rename_i es c hg
  cases hmk : mapKey T t k with
  | false => rw [hmk] at h; cases h
  | true =>
    rw [hmk] at h
    simp only [cond_true] at h
    obtain ⟨kt, e, d, tk, hd, hdk, hkk, hf⟩ := mapKey_ok hT hmk
    obtain ⟨b, ms, hb, rfl, hh, hmr, _⟩ := R.mapAt hg hx
    have hck := checkKey_ok hdk hkk hf hy
    split at h
    · rename_i j u bo hfd
      cases h
      rcases findNow_ok hkk hf hy hfd hmr with ⟨h0, _⟩ | ⟨j', v', b', m', h0, h5, _, h7, _, _, _, _, _, _⟩
      · cases h0
      · cases h0
        simp only [Nat.sub_zero] at h7
        have hjl : j < ms.size := by
          have := (List.getElem?_eq_some_iff.1 h7).1; simpa using this
        have hel : (ms.eraseIdxIfInBounds j).toList = ms.toList.eraseIdx j := by
          simp [Array.eraseIdxIfInBounds, hjl]
        obtain ⟨R1, E1⟩ := X.putM_ok R (c' := c) (ms' := ms.eraseIdxIfInBounds j) hg hb (by rw [hel]; exact MR.erase j hmr)
        exact ⟨_, rfl, R1, E1, by simp [Builtin.delete_, run_underlying hd, run_getObj_map X.w hh, hck, findKey_ok hdk h5, run_setObj_map X.w hh]⟩
    · rename_i hfd
      cases h
      rcases findNow_ok hkk hf hy hfd hmr with ⟨_, h5⟩ | ⟨_, _, _, _, h0, _⟩
      · obtain ⟨R1, E1⟩ := X.putM_ok R (c' := c) (ms' := ms) hg hb hmr
        exact ⟨_, rfl, R1, E1, by simp [Builtin.delete_, run_underlying hd, run_getObj_map X.w hh, hck, findKey_ok hdk h5, run_setObj_map X.w hh]⟩
      · cases h0
    · cases h
end
end Go.Abs
