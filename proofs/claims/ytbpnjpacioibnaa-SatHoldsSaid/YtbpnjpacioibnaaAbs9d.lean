/- A drawn region's steps. -/
import Derived.Test.YtbpnjpacioibnaaAbsMono
set_option linter.unusedVariables false
set_option linter.unusedSimpArgs false
namespace Go.Abs
open Go Go.RowKit
theorem getD_set (L : Array Bool) (i j : Nat) (hi : i < L.size) : (L.setIfInBounds i true).getD j false = if i = j then true else L.getD j false := by
  rw [Array.getD_eq_getD_getElem?, Array.getElem?_setIfInBounds]
  split
  · rename_i h; subst h; simp [hi]
  · rw [Array.getD_eq_getD_getElem?]
theorem put_ne {a : Act} {d : Option Tmp} {x : Value} {t : Nat} (h : d ≠ some t) : (a.put d x).tmps[t]? = a.tmps[t]? := by
  cases d with
  | none => rfl
  | some d =>
    have : d ≠ t := fun e => h (by rw [e])
    simp only [Act.put]
    rw [Array.getElem?_setIfInBounds_ne this]
theorem put_eq {a : Act} {x : Value} {t : Nat} (h : t < a.tmps.size) : (a.put (some t) x).tmps[t]? = some x := by
  simp only [Act.put]
  rw [Array.getElem?_setIfInBounds_self_of_lt h]
theorem put_size {a : Act} {d : Option Tmp} {x : Value} : (a.put d x).tmps.size = a.tmps.size := by
  cases d <;> simp [Act.put]
theorem put_defers {a : Act} {d : Option Tmp} {x : Value} : (a.put d x).defers = a.defers := by cases d <;> rfl
section
variable {P : Program} {E : Env} {ops : Array Oper} {s0 : List AV} {K : List AV → Mem → Prop} {X0 : Cx} {L : Array Bool} {a : Act} {X : Cx} {rs : RS} {rest : List PStep} {al : List (Nat × Nat)}
theorem Inv.push (I : Inv P E ops s0 K X0 L a X rs rest al) (S : Stat ops (masks ops.toList)) {i : Nat} {v : AV} {o : Oper} (ho : ops[i]? = some o) (hi : i ∉ rs.map (·.1)) (hp : ∀ p ∈ preds o, p ∈ rs.map (·.1)) (hne : isEff o.op = false)
    {X' : Cx} {al' : List (Nat × Nat)} {r : List PStep} (R' : Rl X') (E' : Ev X0 X') (hv : ∀ u x, VR X u x → VR X' u x) (hrun : adraw E ops s0 r ((i, v) :: rs) K X'.M) (hplan : planOk ops (masks ops.toList) (i :: rs.map (·.1)) r = true)
    (hlag : Lag E ops s0 X0 X' al' i v rs o) (hold : ∀ newer j u older oj, rs = newer ++ (j, u) :: older → L.getD j false = false → ops[j]? = some oj → Lag E ops s0 X0 X' al' j u older oj)
    (aln : (al'.map (·.2)).Nodup) (alu : (al'.map (·.1)).Nodup) (hall : ∀ j id, (j, id) ∈ al' → id < X'.M.next ∧ j ∈ i :: rs.map (·.1)) : Inv P E ops s0 K X0 L a X' ((i, v) :: rs) r al' := by
  have hLi : L.getD i false = false := by
    cases hb : L.getD i false with
    | false => rfl
    | true => exact absurd (I.LK i hb) hi
  have hnw : ∀ t, o.dst = some t → ∀ k w, (k, w) ∈ rs → ∀ ok, ops[k]? = some ok → ok.dst ≠ some t := fun t hd k w hk ok hok hdk => by
    obtain rfl := S.uniq k i ok o t hok ho hdk hd
    exact hi (List.mem_map.2 ⟨_, hk, rfl⟩)
  refine ⟨R', E', I.defers, I.size, I.Ls, hrun, hplan, List.nodup_cons.2 ⟨hi, I.nd⟩, fun j h => List.mem_cons_of_mem _ (I.LK j h), fun j u hj he => ?_, I.Ld, fun newer j u older oj hr hoj p hpp => ?_, fun t u => ⟨fun hw hu => ?_, fun hw hu => ?_⟩, fun newer j u older oj hr hjL hoj => ?_, aln, alu, hall⟩
  · rcases List.mem_cons.1 hj with h | h
    · cases h; rw [effAt_eq ho, hne] at he; cases he
    · exact I.eff j u h he
  · cases newer with
    | nil =>
      simp only [List.nil_append, List.cons.injEq, Prod.mk.injEq] at hr
      obtain ⟨⟨rfl, rfl⟩, rfl⟩ := hr
      rw [ho] at hoj; cases hoj
      exact hp p hpp
    | cons q n =>
      simp only [List.cons_append, List.cons.injEq] at hr
      exact I.hist n j u older oj hr.2 hoj p hpp
  · obtain ⟨j, w, oj, hj, hjL, hoj, hdj⟩ := hw
    rcases List.mem_cons.1 hj with h | h
    · cases h
      rw [ho] at hoj; cases hoj
      obtain ⟨x, hx, hvr⟩ := (I.slots t u).2 (fun ⟨k, w', ok, hk, _, hok, hdk⟩ => hnw t hdj k w' hk ok hok hdk) (by rw [sig_none (hnw t hdj)]; exact hu)
      exact ⟨x, hx, hv _ _ hvr⟩
    · obtain ⟨x, hx, hvr⟩ := (I.slots t u).1 ⟨j, w, oj, h, hjL, hoj, hdj⟩ hu
      exact ⟨x, hx, hv _ _ hvr⟩
  · have hd : o.dst ≠ some t := fun hd => hw ⟨i, v, o, by simp, hLi, ho, hd⟩
    have hs : (sig ops s0 ((i, v) :: rs))[t]? = (sig ops s0 rs)[t]? := sig_append (newer := [(i, v)]) fun k w hk ok hok => by
      simp only [List.mem_singleton] at hk
      cases hk
      rw [ho] at hok; cases hok
      exact hd
    rw [hs] at hu
    obtain ⟨x, hx, hvr⟩ := (I.slots t u).2 (fun ⟨k, w', ok, hk, hkL, hok, hdk⟩ => hw ⟨k, w', ok, List.mem_cons_of_mem _ hk, hkL, hok, hdk⟩) hu
    exact ⟨x, hx, hv _ _ hvr⟩
  · cases newer with
    | nil =>
      simp only [List.nil_append, List.cons.injEq, Prod.mk.injEq] at hr
      obtain ⟨⟨rfl, rfl⟩, rfl⟩ := hr
      rw [ho] at hoj; cases hoj
      exact hlag
    | cons q n =>
      simp only [List.cons_append, List.cons.injEq] at hr
      exact hold n j u older oj hr.2 hjL hoj
/-- a step of the abstract machine alone -/
theorem Inv.adv {i : Nat} {r : List PStep} (I : Inv P E ops s0 K X0 L a X rs (.op i :: r) al) (S : Stat ops (masks ops.toList)) (R0 : Rl X0) : ∃ v X' al', X'.w = X.w ∧ Inv P E ops s0 K X0 L a X' ((i, v) :: rs) r al' := by
  have hpl := I.plan
  simp only [planOk, Bool.and_eq_true, Bool.not_eq_true', List.contains_eq_mem, decide_eq_false_iff_not, decide_eq_true_eq, List.all_eq_true] at hpl
  obtain ⟨⟨⟨⟨h1, h2⟩, h3⟩, h4⟩, h5⟩ := hpl
  have hrun := I.run
  simp only [adraw] at hrun
  cases ho : ops[i]? with
  | none => rw [ho] at hrun; exact hrun.elim
  | some o =>
    rw [ho] at hrun
    simp only at hrun
    rw [predsAt_eq ho] at h3
    rw [effAt_eq ho] at h4
    rcases agd_split hrun with ⟨hg, hrun⟩ | ⟨hg, hrun⟩
    · split at hrun
      · rename_i hk
        obtain ⟨v, hv, hrun⟩ := bindP_some hrun
        · exact ⟨v, X, al, rfl, I.push S ho h1 h3 h4 I.R I.E0 (fun _ _ h => h) hrun h5 ⟨h4, .inr (.inl ⟨hg, hk, hv⟩)⟩ I.lag I.aln I.alu fun j id h => ⟨(I.all j id h).1, List.mem_cons_of_mem _ (I.all j id h).2⟩⟩
      · rename_i hk
        obtain ⟨l, hl, hrun⟩ := bindP_some hrun
        · cases hc : l.cs.all AV.cell with
          | false => rw [hc] at hrun; exact hrun.elim
          | true =>
            rw [hc] at hrun
            obtain ⟨R1, E1⟩ := X.plus_ok I.R l.obj
            have hfr := I.R.fresh
            have hge := I.E0.next
            refine ⟨l.val X.M.next, X.plus l.obj, (i, X.M.next) :: al, rfl, I.push S ho h1 h3 h4 R1 (I.E0.trans E1 R0) (fun _ _ h => E1.vr I.R h) hrun h5
              ⟨h4, .inr (.inr ⟨hg, hk, l, X.M.next, hl, hc, rfl, by simp, hge, get_add_eq, hfr.2⟩)⟩ (fun newer j u older oj hr hjL hoj => ?_) ?_ ?_ ?_⟩
            · obtain ⟨e1, e2⟩ := I.lag newer j u older oj hr hjL hoj
              refine ⟨e1, ?_⟩
              rcases e2 with e2 | ⟨e2, e3, e4⟩ | ⟨e2, e3, l', id, e4, e5, e6, e7, e8, e9, e10⟩
              · exact .inl e2
              · exact .inr (.inl ⟨e2, e3, aread_mono (fun k o' hk => by
                  show (X.M.add _).get k = _
                  rw [get_add_ne (Nat.ne_of_lt (I.R.dom k o' hk)), hk]) e4⟩)
              · refine .inr (.inr ⟨e2, e3, l', id, e4, e5, e6, List.mem_cons_of_mem _ e7, e8, ?_, e10⟩)
                show (X.M.add _).get id = _
                rw [get_add_ne (Nat.ne_of_lt (I.all _ _ e7).1), e9]
            · simp only [List.map_cons, List.nodup_cons]
              exact ⟨fun hm => by obtain ⟨q, hq, hq2⟩ := List.mem_map.1 hm; have := (I.all q.1 q.2 hq).1; omega, I.aln⟩
            · simp only [List.map_cons, List.nodup_cons]
              exact ⟨fun hm => by obtain ⟨q, hq, hq2⟩ := List.mem_map.1 hm; exact h1 (hq2 ▸ (I.all q.1 q.2 hq).2), I.alu⟩
            · intro j id h
              rcases List.mem_cons.1 h with h | h
              · cases h; exact ⟨Nat.lt_succ_self _, by simp⟩
              · have := I.all j id h
                exact ⟨Nat.lt_succ_of_lt this.1, List.mem_cons_of_mem _ this.2⟩
      · exact hrun.elim
    · exact ⟨nothing, X, al, rfl, I.push S ho h1 h3 h4 I.R I.E0 (fun _ _ h => h) hrun h5 ⟨h4, .inl ⟨hg, rfl⟩⟩ I.lag I.aln I.alu fun j id h => ⟨(I.all j id h).1, List.mem_cons_of_mem _ (I.all j id h).2⟩⟩
/-- the world catches up with one operation -/
theorem Inv.did (I : Inv P E ops s0 K X0 L a X rs rest al) (S : Stat ops (masks ops.toList)) {newer older : RS} {i : Nat} {v : AV} {o : Oper} {x : Value} (hr : rs = newer ++ (i, v) :: older) (hL : L.getD i false = false) (ho : ops[i]? = some o)
    (hp : ∀ p ∈ preds o, L.getD p false = true) {X' : Cx} {al' : List (Nat × Nat)} (hM : X'.M = X.M) (R' : Rl X') (E' : Ev X0 X') (hv : ∀ u y, VR X u y → VR X' u y) (hx : VR X' v x)
    (hold : ∀ newer j u older oj, rs = newer ++ (j, u) :: older → j ≠ i → L.getD j false = false → ops[j]? = some oj → Lag E ops s0 X0 X' al' j u older oj) (aln : (al'.map (·.2)).Nodup) (alu : (al'.map (·.1)).Nodup) (hall : ∀ j id, (j, id) ∈ al' → (j, id) ∈ al) :
    Inv P E ops s0 K X0 (L.setIfInBounds i true) (a.put o.dst x) X' rs rest al' := by
  have hiL : i < L.size := by rw [I.Ls]; exact (Array.getElem?_eq_some_iff.1 ho).1
  have hset := fun j => getD_set L i j hiL
  have him : (i, v) ∈ rs := by rw [hr]; simp
  have huq : ∀ t, o.dst = some t → ∀ k w ok, (k, w) ∈ rs → ops[k]? = some ok → ok.dst = some t → k = i := fun t hd k w ok _ hok hdk => S.uniq k i ok o t hok ho hdk hd
  have hnd := I.nd
  refine ⟨R', E', by rw [put_defers]; exact I.defers, by rw [put_size]; exact I.size, by simp [I.Ls], by rw [hM]; exact I.run, I.plan, I.nd, fun j h => ?_, fun j u hj he => ?_, fun j oj hoj h p hpp => ?_, I.hist, fun t u => ⟨fun hw hu => ?_, fun hw hu => ?_⟩, fun newer' j u older' oj hr' hjL hoj => ?_, aln, alu, fun j id h => by rw [hM]; exact I.all j id (hall j id h)⟩
  · rw [hset] at h
    split at h
    · rename_i e; subst e; exact List.mem_map.2 ⟨_, him, rfl⟩
    · exact I.LK j h
  · rw [hset]
    split
    · rfl
    · exact I.eff j u hj he
  · rw [hset] at h ⊢
    split
    · rfl
    · split at h
      · rename_i e; subst e
        rw [ho] at hoj; cases hoj
        exact hp p hpp
      · exact I.Ld j oj hoj h p hpp
  · obtain ⟨j, w, oj, hj, hjL, hoj, hdj⟩ := hw
    rw [hset] at hjL
    split at hjL
    · cases hjL
    · rename_i hne
      have hd : o.dst ≠ some t := fun hd => hne (huq t hd j w oj hj hoj hdj).symm
      rw [put_ne hd]
      obtain ⟨y, hy, hvr⟩ := (I.slots t u).1 ⟨j, w, oj, hj, hjL, hoj, hdj⟩ hu
      exact ⟨y, hy, hv _ _ hvr⟩
  · by_cases hd : o.dst = some t
    · have hsg : (sig ops s0 rs)[t]? = (sig ops s0 ((i, v) :: older))[t]? := by
        rw [hr]
        refine sig_append fun k w hk ok hok hdk => ?_
        have hkr : (k, w) ∈ rs := by rw [hr]; exact List.mem_append_left _ hk
        obtain rfl := huq t hd k w ok hkr hok hdk
        rw [hr] at hnd
        simp only [List.map_append, List.map_cons] at hnd
        exact (List.nodup_append.1 hnd).2.2 k (List.mem_map.2 ⟨_, hk, rfl⟩) k (by simp) rfl
      rw [hsg] at hu
      simp only [sig, ho, Option.bind_some, hd, aput] at hu
      rw [List.getElem?_set] at hu
      rw [if_pos rfl] at hu
      split at hu
      · rename_i hlt
        cases hu
        rw [sig_len] at hlt
        rw [hd, put_eq (by rw [← I.size]; exact hlt)]
        exact ⟨x, rfl, hx⟩
      · cases hu
    · rw [put_ne hd]
      obtain ⟨y, hy, hvr⟩ := (I.slots t u).2 (fun ⟨k, w, ok, hk, hkL, hok, hdk⟩ => hw ⟨k, w, ok, hk, by
        rw [hset, if_neg (fun e => by subst e; rw [ho] at hok; cases hok; exact hd hdk)]; exact hkL, hok, hdk⟩) hu
      exact ⟨y, hy, hv _ _ hvr⟩
  · rw [hset] at hjL
    split at hjL
    · cases hjL
    · rename_i hne
      exact hold newer' j u older' oj hr' (Ne.symm hne) hjL hoj
theorem Inv.act (I : Inv P E ops s0 K X0 L a X rs rest al) {a' : Act} (ht : a'.tmps = a.tmps) (hd : ∀ d ∈ a'.defers, d ∈ a.defers ∨ Harm P d) : Inv P E ops s0 K X0 L a' X rs rest al :=
  { I with defers := fun d hm => (hd d hm).elim (I.defers d) id, size := by rw [ht]; exact I.size, slots := fun t v => by rw [ht]; exact I.slots t v }
/-- both do an effect -/
theorem Inv.doE {i : Nat} {re : List Nat} {r : List PStep} (I : Inv P E ops s0 K X0 L a X rs (.eff i re :: r) al) (S : Stat ops (masks ops.toList)) {v : AV} {o : Oper} {x : Value} (hi : i ∉ rs.map (·.1)) (ho : ops[i]? = some o) (hpK : ∀ p ∈ preds o, p ∈ rs.map (·.1))
    (hp : ∀ p ∈ preds o, L.getD p false = true) {X' : Cx} (R' : Rl X') (E' : Ev X0 X') (hv : ∀ u y, VR X u y → VR X' u y) (hx : VR X' v x) (hrun : adraw E ops s0 r ((i, v) :: rs) K X'.M) (hplan : planOk ops (masks ops.toList) (i :: rs.map (·.1)) r = true)
    (hold : ∀ newer j u older oj, rs = newer ++ (j, u) :: older → L.getD j false = false → ops[j]? = some oj → Lag E ops s0 X0 X' al j u older oj) (hnx : X.M.next ≤ X'.M.next) :
    Inv P E ops s0 K X0 (L.setIfInBounds i true) (a.put o.dst x) X' ((i, v) :: rs) r al := by
  have hiL : i < L.size := by rw [I.Ls]; exact (Array.getElem?_eq_some_iff.1 ho).1
  have hset := fun j => getD_set L i j hiL
  have hnw : ∀ t, o.dst = some t → ∀ k w, (k, w) ∈ rs → ∀ ok, ops[k]? = some ok → ok.dst ≠ some t := fun t hd k w hk ok hok hdk => by
    obtain rfl := S.uniq k i ok o t hok ho hdk hd
    exact hi (List.mem_map.2 ⟨_, hk, rfl⟩)
  refine ⟨R', E', by rw [put_defers]; exact I.defers, by rw [put_size]; exact I.size, by simp [I.Ls], hrun, hplan, List.nodup_cons.2 ⟨hi, I.nd⟩, fun j h => ?_, fun j u hj he => ?_, fun j oj hoj h p hpp => ?_, fun newer j u older oj hr hoj p hpp => ?_, fun t u => ⟨fun hw hu => ?_, fun hw hu => ?_⟩, fun newer' j u older' oj hr' hjL hoj => ?_, I.aln, I.alu, fun j id h => ⟨Nat.lt_of_lt_of_le (I.all j id h).1 hnx, List.mem_cons_of_mem _ (I.all j id h).2⟩⟩
  · rw [hset] at h
    split at h
    · rename_i e; subst e; simp
    · exact List.mem_cons_of_mem _ (I.LK j h)
  · rw [hset]
    split
    · rfl
    · rename_i hne
      rcases List.mem_cons.1 hj with h | h
      · cases h; exact absurd rfl hne
      · exact I.eff j u h he
  · rw [hset] at h ⊢
    split
    · rfl
    · split at h
      · rename_i e; subst e
        rw [ho] at hoj; cases hoj
        exact hp p hpp
      · exact I.Ld j oj hoj h p hpp
  · cases newer with
    | nil =>
      simp only [List.nil_append, List.cons.injEq, Prod.mk.injEq] at hr
      obtain ⟨⟨rfl, rfl⟩, rfl⟩ := hr
      rw [ho] at hoj; cases hoj
      exact hpK p hpp
    | cons q n =>
      simp only [List.cons_append, List.cons.injEq] at hr
      exact I.hist n j u older oj hr.2 hoj p hpp
  · obtain ⟨j, w, oj, hj, hjL, hoj, hdj⟩ := hw
    rw [hset] at hjL
    split at hjL
    · cases hjL
    · rename_i hne
      rcases List.mem_cons.1 hj with h | h
      · cases h; exact absurd rfl hne
      · have hd : o.dst ≠ some t := fun hd => hnw t hd j w h oj hoj hdj
        rw [put_ne hd]
        obtain ⟨y, hy, hvr⟩ := (I.slots t u).1 ⟨j, w, oj, h, hjL, hoj, hdj⟩ hu
        exact ⟨y, hy, hv _ _ hvr⟩
  · by_cases hd : o.dst = some t
    · simp only [sig, ho, Option.bind_some, hd, aput] at hu
      rw [List.getElem?_set, if_pos rfl] at hu
      split at hu
      · rename_i hlt
        cases hu
        rw [sig_len] at hlt
        rw [hd, put_eq (by rw [← I.size]; exact hlt)]
        exact ⟨x, rfl, hx⟩
      · cases hu
    · have hs : (sig ops s0 ((i, v) :: rs))[t]? = (sig ops s0 rs)[t]? := sig_append (newer := [(i, v)]) fun k w hk ok hok => by
        simp only [List.mem_singleton] at hk
        cases hk
        rw [ho] at hok; cases hok
        exact hd
      rw [hs] at hu
      rw [put_ne hd]
      obtain ⟨y, hy, hvr⟩ := (I.slots t u).2 (fun ⟨k, w, ok, hk, hkL, hok, hdk⟩ => hw ⟨k, w, ok, List.mem_cons_of_mem _ hk, by
        rw [hset, if_neg (fun e => by subst e; exact hi (List.mem_map.2 ⟨_, hk, rfl⟩))]; exact hkL, hok, hdk⟩) hu
      exact ⟨y, hy, hv _ _ hvr⟩
  · rw [hset] at hjL
    split at hjL
    · cases hjL
    · rename_i hne
      cases newer' with
      | nil =>
        simp only [List.nil_append, List.cons.injEq, Prod.mk.injEq] at hr'
        exact absurd hr'.1.1 hne
      | cons q n =>
        simp only [List.cons_append, List.cons.injEq] at hr'
        exact hold n j u older' oj hr'.2 hjL hoj
end
end Go.Abs
