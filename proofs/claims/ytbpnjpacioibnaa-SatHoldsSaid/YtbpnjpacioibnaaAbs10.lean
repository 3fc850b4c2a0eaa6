/- Functions: results, what is dropped at the end, fuelled runs. -/
import Derived.Test.YtbpnjpacioibnaaAbs9f
set_option linter.unusedVariables false
set_option linter.unusedSimpArgs false
namespace Go.Abs
open Go Go.RowKit

def ares (T : Tab) (s : List AV) (M : Mem) : List ResultVar → Option (List AV)
  | [] => some []
  | .tmp t :: r => match s[t]? with | some v => (ares T s M r).map (v :: ·) | none => none
  | .cell a t :: r => match aload T M t (s.getD a .undef) with | some v => (ares T s M r).map (v :: ·) | none => none
def aresult : List AV → AV
  | [v] => v
  | vs => .tup vs
def resOf (tmps : Array Value) (r : ResultVar) : Go.Sem Value :=
  match r with
  | .tmp t => pure (tmps.getD t Go.undef)
  | .cell a t => do loadVar t (← asAddr (tmps.getD a Go.undef))
theorem results_eq (fn : Func) (tmps : Array Value) : results fn tmps = (do let vs ← fn.results.mapM (resOf tmps); pure (if h : vs.size = 1 then vs[0] else .tuple vs)) := rfl
/-- how a function ends: what is dropped of what it made is up to 'G' -/
def aend (E : Env) (G : Nat → AV → Mem → Mem) (rs : List ResultVar) (n0 : Nat) (K : Post) : KK := fun e s M =>
  match e with
  | .exit _ => False
  | _ => match ares E.T s M rs with
    | some vs => K (aresult vs) (G n0 (aresult vs) M)
    | none => False
structure GOk (G : Nat → AV → Mem → Mem) : Prop where
  next : ∀ n r M, (G n r M).next = M.next
  get : ∀ n r M i, (G n r M).get i = M.get i ∨ n ≤ i ∧ (G n r M).get i = none
def keepAll : Nat → AV → Mem → Mem := fun _ _ M => M
theorem keepAll_ok : GOk keepAll := ⟨fun _ _ _ => rfl, fun _ _ _ _ => .inl rfl⟩
section
variable {P : Program}
theorem Cx.cut_ok {Y : Cx} (R : Rl Y) {M : Mem} (hn : M.next = Y.M.next) (hg : ∀ i, M.get i = Y.M.get i ∨ M.get i = none) : Rl { Y with M := M } ∧ Ev0 Y { Y with M := M } := by
  have hb : ∀ {i o}, M.get i = some o → Y.M.get i = some o := fun {i o} h => by
    rcases hg i with h1 | h1
    · rw [← h1]; exact h
    · rw [h] at h1; cases h1
  have E : Ev0 Y { Y with M := M } :=
    { Ev0.refl Y with
      next := Nat.le_of_eq hn.symm
      gone := fun i _ h => by show M.get i = none; rcases hg i with h1 | h1 <;> simp_all
      cells := fun i e sz fz cs h => by
        rcases hg i with h1 | h1
        · exact .inr ⟨fz, cs, h1.trans h, Nat.le_refl _, id, fun _ b hb => ⟨hb, fun cur e' f h => ⟨cur, h, rfl⟩⟩⟩
        · exact .inl h1
      map := fun i es c h => by
        rcases hg i with h1 | h1
        · exact .inr ⟨es, c, h1.trans h, fun _ h => h⟩
        · exact .inl h1
      sit := fun i s p h => by
        rcases hg i with h1 | h1
        · exact .inr ⟨s, p, h1.trans h, fun _ h => h⟩
        · exact .inl h1 }
  refine ⟨⟨R.inj, fun i b h => ?_, R.Flt, fun i o h => ?_, fun i b e sz fz cs h h' => ?_, fun i b s p h h' => R.sit i b s p (hb h) h', fun i b es c h h' => ?_⟩, E⟩
  · have := R.lt i b h; exact ⟨by show i < M.next; omega, this.2⟩
  · have := R.dom i o (hb h); show i < M.next; omega
  · obtain ⟨⟨cur, a1, a2, a3⟩, b, c⟩ := R.cells i b e sz fz cs (hb h) h'
    exact ⟨⟨cur, a1, a2, E.vrs R a3⟩, b, c⟩
  · obtain ⟨⟨ms, a1, a3⟩, b_⟩ := R.map i b es c (hb h) h'
    exact ⟨⟨ms, a1, E.mr R a3⟩, b_⟩
theorem Ev.cut {X Y : Cx} (E : Ev X Y) (RX : Rl X) (R : Rl Y) {M : Mem} (hn : M.next = Y.M.next) (hg : ∀ i, M.get i = Y.M.get i ∨ X.M.next ≤ i ∧ M.get i = none) : Rl { Y with M := M } ∧ Ev0 Y { Y with M := M } ∧ Ev X { Y with M := M } := by
  obtain ⟨R1, E1⟩ := Cx.cut_ok R hn fun i => (hg i).imp id (·.2)
  refine ⟨R1, E1, E.toEv0.trans E1 RX, fun i o h h' => ?_⟩
  obtain ⟨a, b⟩ := E.unborn i o h h'
  refine ⟨?_, b⟩
  show M.get i = some o
  rcases hg i with h1 | ⟨h1, _⟩
  · exact h1.trans a
  · have := RX.dom i o h; omega
theorem ares_ok {T : Tab} (hT : TabOk P T) {X : Cx} (R : Rl X) {s : List AV} {a : Act} (S : SR P X s a) : ∀ {rs : List ResultVar} {vs : List AV}, ares T s X.M rs = some vs →
    ∃ xs, (rs.mapM (resOf a.tmps)).run P X.w = .ok xs X.w ∧ VRs X vs xs
  | [], vs, h => by cases h; exact ⟨[], rfl, rfl⟩
  | .tmp t :: r, vs, h => by
    simp only [ares] at h
    split at h
    · rename_i v hv
      obtain ⟨ws, hw, rfl⟩ := Option.map_eq_some_iff.1 h
      obtain ⟨xs, h1, h2⟩ := ares_ok hT R S hw
      obtain ⟨x, hx, hvr⟩ := S.get t v hv
      refine ⟨x :: xs, ?_, x, xs, rfl, hvr, h2⟩
      simp only [List.mapM_cons, Sem.run_bind, resOf, Sem.run_pure, Result.andThen, h1, Array.getD_eq_getD_getElem?, hx, Option.getD_some]
    · cases h
  | .cell c t :: r, vs, h => by
    simp only [ares] at h
    split at h
    · rename_i v hv
      obtain ⟨ws, hw, rfl⟩ := Option.map_eq_some_iff.1 h
      obtain ⟨xs, h1, h2⟩ := ares_ok hT R S hw
      have hc := S.ev (.tmp c)
      obtain ⟨x, hx, hvr⟩ := load_ok hT R hv hc
      refine ⟨x :: xs, ?_, x, xs, rfl, hvr, h2⟩
      have hp : ∃ ad, a.eval (.tmp c) = .pointer (some ad) := by
        simp only [Abs.ev] at hc
        unfold aload at hv
        split at hv
        · rename_i i g off he
          rw [he] at hc
          split at hv
          · rename_i e sz fz cs hg
            cases hb : Nat.beq cs.length g with
            | false => rw [hb] at hv; cases hv
            | true =>
              obtain ⟨b, cur, _, hx2, _⟩ := R.at hg (Nat.eq_of_beq_eq_true hb) hc
              exact ⟨_, hx2⟩
          · cases hv
        · rename_i cs he
          rw [he] at hc
          simp only [VR] at hc
          obtain ⟨b, off, cur, e, fz, hx2, _⟩ := hc
          exact ⟨_, hx2⟩
        · cases hv
      obtain ⟨ad, had⟩ := hp
      rw [had] at hx
      simp only [Act.eval] at had
      have hl : (loadVar t ad).run P X.w = .ok x X.w := by simpa [Instr.loadAt, Instr.sureAddr] using hx
      simp only [List.mapM_cons, Sem.run_bind, resOf, Sem.run_pure, Result.andThen, had, asAddr, hl, h1]
    · cases h
theorem results_ok {T : Tab} (hT : TabOk P T) {X : Cx} (R : Rl X) {s : List AV} {a : Act} (S : SR P X s a) {fn : Func} {vs : List AV} (h : ares T s X.M fn.results.toList = some vs) :
    ∃ x, (results fn a.tmps).run P X.w = .ok x X.w ∧ VR X (aresult vs) x := by
  obtain ⟨xs, h1, h2⟩ := ares_ok hT R S h
  have hm : (fn.results.mapM (resOf a.tmps)).run P X.w = .ok xs.toArray X.w := by
    rw [Array.mapM_eq_mapM_toList]
    simp only [Sem.run_map, h1, Result.andThen]
  have hlen := h2.len
  refine ⟨if h : xs.toArray.size = 1 then xs.toArray[0] else .tuple xs.toArray, ?_, ?_⟩
  · rw [results_eq]
    simp only [Sem.run_bind, hm, Result.andThen, Sem.run_pure]
  · match vs, xs, h2 with
    | [], [], _ => simp only [aresult]; exact ⟨#[], rfl, rfl⟩
    | [v], [x], h2 =>
      simp only [VRs] at h2
      obtain ⟨y, ys, e, hv, _⟩ := h2
      cases e
      simpa [aresult] using hv
    | v :: v' :: vs, x :: x' :: xs, h2 =>
      rw [dif_neg (by simp)]
      simp only [aresult, VR]
      exact ⟨_, rfl, h2⟩
    | [], x :: xs, h2 => simp only [VRs] at h2; cases h2
    | v :: vs, [], h2 => simp only [VRs] at h2; obtain ⟨_, _, e, _⟩ := h2; cases e
    | [v], x :: x' :: xs, h2 => have := h2.len; simp at this
    | v :: v' :: vs, [x], h2 => have := h2.len; simp at this
theorem rep_ok (X : Cx) : ∀ n, VRs X (List.replicate n nothing) (List.replicate n Go.undef) := VRs.rep (nothing_ok X)
/-- where memory below has not turned -/
theorem Cx.below_ok {X : Cx} (R : Rl X) {w : World} (h : Below X.w.heap.size X.w w) : Rl { X with w := w } ∧ Ev X { X with w := w } := by
  have E : Ev0 X { X with w := w } :=
    { Ev0.refl X with
      os := h.os
      tape := h.tape
      output := h.output
      size := h.size
      Fnew := fun b hb => .inl hb
      keep := fun b hb _ => h.block b hb
      new := fun i b hb => .inl hb
      cells := fun i e sz fz cs hg => .inr ⟨fz, cs, hg, Nat.le_refl _, id, fun _ b hb => ⟨hb, fun cur e' f hc => ⟨cur, (h.block b (R.lt i b hb).2).trans hc, rfl⟩⟩⟩
      map := fun i es c hg => .inr ⟨es, c, hg, fun _ hb => hb⟩
      sit := fun i s p hg => .inr ⟨s, p, hg, fun _ hb => hb⟩ }
  refine ⟨⟨R.inj, fun i b hb => ⟨(R.lt i b hb).1, Nat.lt_of_lt_of_le (R.lt i b hb).2 h.size⟩, fun b hb => Nat.lt_of_lt_of_le (R.Flt b hb) h.size, R.dom, fun i b e sz fz cs hg hb => ?_, fun i b s p hg hb => ?_, fun i b es c hg hb => ?_⟩, E, fun i o hg hb => ⟨hg, hb⟩⟩
  · obtain ⟨⟨cur, a1, a2, a3⟩, b1, c1⟩ := R.cells i b e sz fz cs hg hb
    exact ⟨⟨cur, (h.block b (R.lt i b hb).2).trans a1, a2, E.vrs R a3⟩, b1, c1⟩
  · obtain ⟨a1, a2⟩ := R.sit i b s p hg hb
    exact ⟨(h.block b (R.lt i b hb).2).trans a1, a2⟩
  · obtain ⟨⟨ms, a1, a3⟩, b1⟩ := R.map i b es c hg hb
    exact ⟨⟨ms, (h.block b (R.lt i b hb).2).trans a1, E.mr R a3⟩, b1⟩
theorem leaves_harm {fn : Func} {tmps : Array Value} {Q : Ending → World → Prop} : ∀ (ds : List Deferred) (w : World), (∀ d ∈ ds, Harm P d) →
    (∀ w', Below w.heap.size w w' → ∃ v, (results fn tmps).run P w' = .ok v w' ∧ Q (.returned v) w') → Leaves P fn tmps Q ds .returning w
  | [], w, _, h => h w (Below.refl _ w)
  | d :: ds, w, hd, h => by
    obtain ⟨fv, cap, f, args, ht, hi, hc⟩ := hd d (List.mem_cons_self ..)
    refine ⟨nofun, fv, cap, f, args, ht, hi w, (hc w).mono ?_⟩
    rintro e u' w' ⟨⟨v, rfl⟩, rfl, hb⟩
    exact leaves_harm ds w' (fun d hm => hd d (List.mem_cons_of_mem _ hm)) fun w2 hb2 => h w2 (hb.trans (hb2.mono hb.size))
/-- a function by its code -/
theorem sem_of {E : Env} (hE : EnvOk P E) (hmix : P.follows .mixedOrders = true) {G : Nat → AV → Mem → Mem} (hG : GOk G) {f : FuncId} {fn : Func} {c : Code} (hf : P.funcs[f]? = some fn) (hb : fn.body = some c) (hname : (fn.name == "runtime.NumGoroutine") = false) {args : List AV} {M : Mem} {K : Post}
    (h : acode E c (aend E G fn.results.toList M.next K) (args ++ List.replicate (fn.ntmps - args.length) nothing) M) : Sem P f args M K := by
  refine ⟨⟨fn, hf, by rw [hb]; rfl, hname⟩, fun X xs hM R hargs => ?_⟩
  subst hM
  have hl := hargs.len
  have hall : VRs X (args ++ List.replicate (fn.ntmps - args.length) nothing) (xs ++ Array.replicate (fn.ntmps - xs.size) Go.undef).toList := by
    simp only [Array.toList_append, Array.toList_replicate]
    have : xs.size = args.length := by simpa using hl
    rw [this]
    exact hargs.append (rep_ok X _)
  have S : SR P X (args ++ List.replicate (fn.ntmps - args.length) nothing) { tmps := xs ++ Array.replicate (fn.ntmps - xs.size) Go.undef, defers := [] } :=
    ⟨fun d hd => by simp at hd, by have := hall.len; simpa using this.symm, fun t v hv => by
      obtain ⟨x, hx, hr⟩ := hall.get hv
      exact ⟨x, by rw [← Array.getElem?_toList]; exact hx, hr⟩⟩
  refine calls_of_wp_defers hf hb (Code.wp_mono ?_ (code_ok hE hmix R c _ X _ _ h R (Ev.refl X) S))
  rintro e a' w' ⟨ex, Y, s', h1, h2, R1, E1, rfl, S1⟩
  have key : ∀ {vs}, ares E.T s' Y.M fn.results.toList = some vs → K (aresult vs) (G X.M.next (aresult vs) Y.M) →
      Leaves P fn a'.tmps (fun e w' => ∃ Z r x, e = .returned x ∧ Z.w = w' ∧ K r Z.M ∧ Rl Z ∧ Ev X Z ∧ VR Z r x) a'.defers .returning Y.w := fun {vs} hv hK => by
    refine leaves_harm _ _ S1.defers fun w2 hb2 => ?_
    obtain ⟨R3, E3⟩ := Cx.below_ok R1 hb2
    obtain ⟨x, h3, h4⟩ := results_ok hE.T R3 (S1.mono E3.toEv0 R1) (fn := fn) hv
    obtain ⟨R4, E4, E5⟩ := (E1.trans E3 R).cut R R3 (hG.next _ _ _) (hG.get X.M.next (aresult vs) Y.M)
    exact ⟨x, h3, _, _, x, rfl, rfl, hK, R4, E5, E4.vr R3 h4⟩
  cases ex <;> cases e <;> simp only [ExR] at h1 <;> simp only [aend] at h2
  · split at h2
    · rename_i vs hv; exact key hv h2
    · exact h2.elim
  · split at h2
    · rename_i vs hv; exact key hv h2
    · exact h2.elim
end
/-- no function with a body bears the one barred name -/
def namesOk (P : Program) : Bool := P.funcs.toList.all fun fn => fn.body.isNone || !(fn.name == "runtime.NumGoroutine")
/-- fuelled runs, for the kernel -/
def runF (P : Program) (T : Tab) (H : FuncId → Bool) (G : Nat → AV → Mem → Mem) (lf : Nat) : Nat → Caller
  | 0 => fun _ _ _ _ => False
  | n + 1 => fun f args M K =>
    match P.funcs[f]? with
    | some fn =>
      match fn.body with
      | some c =>
        acode ⟨T, runF P T H G lf n, H, fun B K s M => rounds B K lf s M⟩ c (aend ⟨T, runF P T H G lf n, H, fun B K s M => rounds B K lf s M⟩ G fn.results.toList M.next K) (args ++ List.replicate (fn.ntmps - args.length) nothing) M
      | none => False
    | none => False
/-- the closures that do no harm -/
def HarmOk (P : Program) (H : FuncId → Bool) : Prop := ∀ g, H g = true → ∀ first args cap : Array Value, Harm P { target := .fn (.func g) cap, args := first ++ args }
theorem runF_ok {P : Program} (hmix : P.follows .mixedOrders = true) {T : Tab} (hT : TabOk P T) {H : FuncId → Bool} (hH : HarmOk P H) {G : Nat → AV → Mem → Mem} (hG : GOk G) (hN : namesOk P = true) (lf : Nat) : ∀ n f args M K, runF P T H G lf n f args M K → Sem P f args M K
  | 0, _, _, _, _, h => h.elim
  | n + 1, f, args, M, K, h => by
    simp only [runF] at h
    split at h
    · rename_i fn hfn
      split at h
      · rename_i c hc
        refine sem_of ⟨fun g hg first ar cap => hH g hg first ar cap, hT, runF_ok hmix hT hH hG hN lf n, fun B K s M h => ⟨lf, h⟩⟩ hmix hG hfn hc ?_ h
        have := (List.all_eq_true.1 hN) fn (Array.mem_toList_iff.2 (Array.mem_of_getElem? hfn))
        simpa [hc] using this
      · exact h.elim
    · exact h.elim
end Go.Abs
