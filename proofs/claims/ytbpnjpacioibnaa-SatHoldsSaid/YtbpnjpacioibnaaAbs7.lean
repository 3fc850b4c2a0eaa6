/- append and store. -/
import Derived.Test.YtbpnjpacioibnaaAbs6
set_option linter.unusedVariables false
set_option linter.unusedSimpArgs false
namespace Go.Abs
open Go Go.RowKit
section
variable {P : Program} {w : World}
/-- what is appended: so many, these cells -/
structure Src (P : Program) (w : World) (size bytes : Nat) (z : Value) (u : TypeId) (x : Value) (n : Nat) (news : List Value) : Prop where
  out : ∃ d, P.underlying u = some d ∧
    ((∀ k, d ≠ .int k) ∧ (Builtin.lenOf x).run P w = .ok n w ∧ (Builtin.firstCells size n x).run P w = .ok news.toArray w ∧ (Builtin.firstCells size n x).run P w.drew = .ok news.toArray w.drew
    ∨ (∃ k, d = .int k) ∧ x = .int .i64 (n : Int) ∧ (n : Int) * (bytes : Int) ≤ 2 ^ 48 ∧ n ≤ 2 ^ 62 ∧ news = (List.replicate n z.cells.toList).flatten ∧ z.cells.size = size)
  len : news.length = n * size
theorem zeroCells_list (z : Array Value) (n : Nat) : (Builtin.zeroCells z n).toList = (List.replicate n z.toList).flatten := by
  by_cases hz : 0 < z.size
  · exact rangeMod z hz n
  · have : z = #[] := by apply Array.eq_empty_of_size_eq_zero; omega
    subst this
    simp [Builtin.zeroCells]
theorem app_room {t u ty e : TypeId} {i : TypeInfo} {z : Value} (ht : P.underlying t = some (.slice e)) (hi : P.info? e = some i) (hz : i.zero = some z) {base : Option Addr} {sLen sCap n : Nat} {x : Value} {news : List Value}
    (hx : Src P w i.size i.bytes z u x n news) (hroom : sLen + n ≤ sCap) :
    (Builtin.append_ #[t, u] ty #[.slice base sLen sCap, x]).run P w = (match base with | some a => (storeCells (a.add (sLen * i.size)) news).run P w | none => .ok () w).andThen fun _ w' => .ok (.slice base (sLen + n) sCap) w' := by
  obtain ⟨⟨d, hd, h⟩, hl⟩ := hx
  rcases h with ⟨hni, h1, h2, h3⟩ | ⟨⟨k, rfl⟩, rfl, h1, h2, rfl, h4⟩
  · have hm : (match d with | .int _ => true | _ => false) = false := by cases d <;> first | rfl | exact absurd rfl (hni _)
    simp [Builtin.append_, run_underlying ht, run_underlying hd, sizeOf, typeInfo, hi, hm, h1, hroom, h2]
    cases base <;> simp
  · have wn : IntKind.i64.wrap (n : Int) = n := IntWalk.i64_in _ (by omega)
    have hnn : ¬ (n : Int) < 0 := by omega
    have hnb : ¬ (281474976710656 < (n : Int) * (i.bytes : Int)) := by omega
    by_cases h0 : n * i.size = 0
    · have hnil : (List.replicate n z.cells.toList).flatten = [] := List.eq_nil_of_length_eq_zero (by rw [hl, h0])
      simp [Builtin.append_, run_underlying ht, run_underlying hd, sizeOf, typeInfo, hi, asInt, asIntOf, wn, hnn, hnb, hroom, h0, hnil]
      cases base <;> simp
    · have hzc : (Builtin.zeroCells z.cells n).toList = (List.replicate n z.cells.toList).flatten := zeroCells_list _ _
      simp [Builtin.append_, run_underlying ht, run_underlying hd, sizeOf, typeInfo, hi, asInt, asIntOf, wn, hnn, hnb, hroom, h0, zeroValue, hz, hzc]
      cases base <;> simp
theorem app_grow {t u ty e : TypeId} {i : TypeInfo} {z : Value} (ht : P.underlying t = some (.slice e)) (hi : P.info? e = some i) (hz : i.zero = some z) {base : Option Addr} {sLen sCap n : Nat} {x : Value} {old news : List Value}
    (hx : Src P w i.size i.bytes z u x n news) (hroom : ¬ sLen + n ≤ sCap) (hlc : sLen ≤ sCap) (hfit : (sLen + n) * i.bytes ≤ 2 ^ 47) (hmax : sLen + n ≤ 2 ^ 62) (hold : (Builtin.firstCells i.size sLen (.slice base sLen sCap)).run P w.drew = .ok old.toArray w.drew) :
    (Builtin.append_ #[t, u] ty #[.slice base sLen sCap, x]).run P w =
      .ok (.slice (some ⟨w.heap.size, 0, none⟩) (sLen + n) (grownCap w (sLen + n) sCap e)) (w.drew.alloc (.cells (old.toArray ++ news.toArray ++ Builtin.zeroCells z.cells (grownCap w (sLen + n) sCap e - (sLen + n))) e)) := by
  obtain ⟨⟨d, hd, h⟩, hl⟩ := hx
  have hsz := growslice_fits (need := sLen + n) (old := sCap) (bytes := i.bytes) (by omega) (by omega)
  have hfit' : ¬ (281474976710656 < Builtin.nextslicecap (sLen + n) sCap * i.bytes) := by omega
  have hmx : ¬ (9223372036854775807 < (sLen : Int) + (n : Int)) := by omega
  have hf : (Question.appendCap (sLen + n) sCap e).forced = false := rfl
  rcases h with ⟨hni, h1, h2, h3⟩ | ⟨⟨k, rfl⟩, rfl, h1, h2, rfl, h4⟩
  · have hm : (match d with | .int _ => true | _ => false) = false := by cases d <;> first | rfl | exact absurd rfl (hni _)
    simp [Builtin.append_, run_underlying ht, run_underlying hd, sizeOf, typeInfo, hi, hm, h1, hroom, hfit', hmx, hf, hold, h3, zeroValue, hz, newRow, grownCap]
    congr 2
    apply Array.ext'
    simp
  · have wn : IntKind.i64.wrap (n : Int) = n := IntWalk.i64_in _ (by omega)
    have hnn : ¬ (n : Int) < 0 := by omega
    have hnb : ¬ (281474976710656 < (n : Int) * (i.bytes : Int)) := by omega
    by_cases h0 : n * i.size = 0
    · have hnil : (List.replicate n z.cells.toList).flatten = [] := List.eq_nil_of_length_eq_zero (by rw [hl, h0])
      simp [Builtin.append_, run_underlying ht, run_underlying hd, sizeOf, typeInfo, hi, asInt, asIntOf, wn, hnn, hnb, hroom, h0, hnil, hfit', hmx, hf, hold, zeroValue, hz, newRow, grownCap]
    · have hzc : Builtin.zeroCells z.cells n = ((List.replicate n z.cells.toList).flatten).toArray := by rw [← zeroCells_list]
      simp [Builtin.append_, run_underlying ht, run_underlying hd, sizeOf, typeInfo, hi, asInt, asIntOf, wn, hnn, hnb, hroom, h0, hzc, hfit', hmx, hf, hold, zeroValue, hz, newRow, grownCap]
      congr 2
      apply Array.ext'
      simp
end
/-- a block moves to a new place and grows -/
def Cx.moved (X : Cx) (i : Nat) (o : AO) (cur : Array Value) (e : TypeId) : Cx := { ι := fun j => if j = i then some X.w.heap.size else X.ι j, F := X.F, M := X.M.set i o, w := X.w.alloc (.cells cur e) }
theorem Cx.move_ok (X : Cx) (R : Rl X) {i b e sz : Nat} {cs cs' : List AV} {cur' : Array Value} (hg : X.M.get i = some (.cells e sz false cs)) (hb : X.ι i = some b)
    (hlt : cs.length < cs'.length) (hl : cs'.length ≤ cur'.size) (hv : VRs X cs' (cur'.toList.take cs'.length)) (hc : cs'.all AV.cell = true) :
    Rl (X.moved i (.cells e sz false cs') cur' e) ∧ Ev X (X.moved i (.cells e sz false cs') cur' e) := by
  have hself := get_set_eq (o := .cells e sz false cs') hg
  have hnew : ∀ {j b'}, (X.moved i (.cells e sz false cs') cur' e).ι j = some b' → (j = i ∧ b' = X.w.heap.size) ∨ (j ≠ i ∧ X.ι j = some b') := fun {j b'} h => by
    simp only [Cx.moved] at h
    split at h
    · rename_i h0; exact .inl ⟨h0, (Option.some.inj h).symm⟩
    · rename_i h0; exact .inr ⟨h0, h⟩
  have hι : ∀ {j b'}, j ≠ i → X.ι j = some b' → (X.moved i (.cells e sz false cs') cur' e).ι j = some b' := fun {j b'} hj h => by simp [Cx.moved, hj, h]
  have E : Ev X (X.moved i (.cells e sz false cs') cur' e) := by
    refine ⟨⟨rfl, rfl, rfl, by simp [Cx.moved], Nat.le_refl _, fun _ h => h, fun _ h => .inl h, fun k hk _ => heap_alloc_old' _ _ hk, fun j b' h => ?_, fun j _ h => ?_, fun j e2 sz2 fz2 cs2 h => ?_, fun j es c h => ?_, fun j s p h => ?_⟩, fun j o h h' => ?_⟩
    · rcases hnew h with ⟨_, rfl⟩ | ⟨_, h⟩
      · exact .inr (Nat.le_refl _)
      · exact .inl h
    · show (X.M.set i _).get j = none
      have hne : j ≠ i := fun e' => by subst e'; rw [hg] at h; cases h
      rw [get_set_ne hne]; exact h
    · by_cases hj : j = i
      · subst hj
        rw [hg] at h
        obtain ⟨rfl, rfl, rfl, rfl⟩ : e = e2 ∧ sz = sz2 ∧ false = fz2 ∧ cs = cs2 := by simpa using h
        exact .inr ⟨false, cs', hself, Nat.le_of_lt hlt, id, fun h => by omega⟩
      · exact .inr ⟨fz2, cs2, (get_set_ne hj).trans h, Nat.le_refl _, id, fun _ b' hb' => ⟨hι hj hb', fun c e' f hc' => ⟨c, (heap_alloc_old' _ _ (R.lt _ _ hb').2).trans hc', rfl⟩⟩⟩
    · have hj : j ≠ i := fun e' => by subst e'; rw [hg] at h; cases h
      exact .inr ⟨es, c, (get_set_ne hj).trans h, fun _ h => hι hj h⟩
    · have hj : j ≠ i := fun e' => by subst e'; rw [hg] at h; cases h
      exact .inr ⟨s, p, (get_set_ne hj).trans h, fun _ h => hι hj h⟩
    · have hj : j ≠ i := fun e' => by subst e'; rw [hb] at h'; cases h'
      exact ⟨(get_set_ne hj).trans h, by simp [Cx.moved, hj, h']⟩
  refine ⟨⟨fun j k b' h h' => ?_, fun j b' h => ?_, fun b' h => ?_, fun j o h => ?_, fun j b' e2 sz2 fz2 cs2 h h' => ?_, fun j b' s p h h' => ?_, fun j b' es c h h' => ?_⟩, E⟩
  · rcases hnew h with ⟨rfl, rfl⟩ | ⟨_, h1⟩ <;> rcases hnew h' with ⟨rfl, h2⟩ | ⟨_, h2⟩
    · rfl
    · exact absurd (R.lt _ _ h2).2 (Nat.lt_irrefl _)
    · subst h2; exact absurd (R.lt _ _ h1).2 (Nat.lt_irrefl _)
    · exact R.inj _ _ _ h1 h2
  · show j < X.M.next ∧ b' < (X.w.alloc _).heap.size
    simp only [World.size_alloc]
    rcases hnew h with ⟨rfl, rfl⟩ | ⟨_, h1⟩
    · exact ⟨R.dom _ _ hg, Nat.lt_succ_self _⟩
    · have := R.lt _ _ h1; omega
  · have := R.Flt b' h
    show b' < (X.w.alloc _).heap.size
    simp only [World.size_alloc]; omega
  · by_cases hj : j = i
    · subst hj; exact R.dom _ _ hg
    · exact R.dom _ _ ((get_set_ne hj).symm.trans h)
  · rcases hnew h' with ⟨rfl, rfl⟩ | ⟨hne, h1⟩
    · have h := hself.symm.trans h
      obtain ⟨rfl, rfl, rfl, rfl⟩ : e = e2 ∧ sz = sz2 ∧ false = fz2 ∧ cs' = cs2 := by simpa using h
      exact ⟨⟨cur', heap_alloc_new' _ _, hl, E.vrs R hv⟩, hc, ⟨fun hF => absurd (R.Flt _ hF) (Nat.lt_irrefl _), fun h => by cases h⟩⟩
    · obtain ⟨⟨cur2, a1, a2, a3⟩, b2, c2⟩ := R.cells j b' e2 sz2 fz2 cs2 ((get_set_ne hne).symm.trans h) h1
      exact ⟨⟨cur2, (heap_alloc_old' _ _ (R.lt _ _ h1).2).trans a1, a2, E.vrs R a3⟩, b2, c2⟩
  · rcases hnew h' with ⟨rfl, rfl⟩ | ⟨hne, h1⟩
    · cases hself.symm.trans h
    · obtain ⟨a, c⟩ := R.sit j b' s p ((get_set_ne hne).symm.trans h) h1
      exact ⟨(heap_alloc_old' _ _ (R.lt _ _ h1).2).trans a, c⟩
  · rcases hnew h' with ⟨rfl, rfl⟩ | ⟨hne, h1⟩
    · cases hself.symm.trans h
    · obtain ⟨⟨ms, a1, a3⟩, c_⟩ := R.map j b' es c ((get_set_ne hne).symm.trans h) h1
      exact ⟨⟨ms, (heap_alloc_old' _ _ (R.lt _ _ h1).2).trans a1, E.mr R a3⟩, c_⟩
/-- what a step comes to -/
def Step (X : Cx) (M' : Mem) (r : AV) (res : World → Value → Prop) : Prop := ∃ Y v, Y.M = M' ∧ Rl Y ∧ Ev X Y ∧ VR Y r v ∧ res Y.w v
section
variable {P : Program} {X : Cx}
theorem store_ok {T : Tab} (hT : TabOk P T) (R : Rl X) {t : TypeId} {a v : AV} {x y : Value} {M' : Mem} (h : astore T X.M t a v = some M') (hx : VR X a x) (hy : VR X v y) :
    ∃ Y, Y.M = M' ∧ Rl Y ∧ Ev X Y ∧ (Instr.storeAt t x y).run P X.w = .ok () Y.w := by
  unfold astore at h
  split at h
  · rename_i i g off te hte
    obtain ⟨it, d, _, hi, hd, _, hs, _, hk, _⟩ := hT.get hte
    split at h
    · rename_i e sz cs hg
      cases hcc : (Nat.beq cs.length g && Nat.beq (vcells v).length te.sz && (vcells v).all AV.cell && Nat.ble (off + te.sz) g) with
      | false => rw [hcc] at h; cases h
      | true =>
        rw [hcc] at h
        obtain rfl := Option.some.inj h
        simp only [Bool.and_eq_true] at hcc
        obtain ⟨⟨⟨h1, h2⟩, h3⟩, h4⟩ := hcc
        have h1 := Nat.eq_of_beq_eq_true h1
        have h2 := Nat.eq_of_beq_eq_true h2
        have h4 := Nat.le_of_ble_eq_true h4
        obtain ⟨b, cur, hb, rfl, k1, k2, k3, k4, _⟩ := R.at hg h1 hx
        have hyc := vcells_ok hy h3
        have hyl : y.cells.size = te.sz := by have := hyc.len; simpa [h2] using this
        have hrun := run_storeCells_at (P := P) b off e y.cells.toList 0 cur X.w k1 (by simp [hyl]; omega) (hyc.one h3)
        simp only [Nat.add_zero] at hrun
        have hsp := splice_ok (off := off) k3 hyc
        have hlen : (splice cs off (vcells v)).length = cs.length := by simp [splice]; omega
        have hcz : (cur.toList.take off ++ y.cells.toList ++ cur.toList.drop (off + y.cells.toList.length)).toArray.size = cur.size := by
          simp only [List.size_toArray, List.length_append, List.length_take, List.length_drop, Array.length_toList, hyl]
          omega
        have hput := X.put_ok R (cs' := splice cs off (vcells v)) (cur' := (cur.toList.take off ++ y.cells.toList ++ cur.toList.drop (off + y.cells.toList.length)).toArray)
          (w' := X.w.setRow b (cur.toList.take off ++ y.cells.toList ++ cur.toList.drop (off + y.cells.toList.length)).toArray) hg hb k1 rfl rfl rfl (by simp)
          (setRow_heap X.w b cur _ e _ k1) (fun k hk => setRow_other X.w b k _ hk) hcz (by omega) (by omega) ?_ ?_
        · exact ⟨_, rfl, hput.1, hput.2, by simp [Instr.storeAt, Instr.sureAddr, storeVar, sizeOf, typeInfo, hi, hs, hyl, hrun]⟩
        · rw [hlen]
          have e2 : ((cur.toList.take off ++ y.cells.toList ++ cur.toList.drop (off + y.cells.toList.length)).toArray.toList).take cs.length = (cur.toList.take cs.length).take off ++ y.cells.toList ++ (cur.toList.take cs.length).drop (off + y.cells.toList.length) := by
            have c1 : y.cells.toList.length = te.sz := by simpa using hyl
            rw [c1]
            apply List.ext_getElem?
            intro k
            simp only [List.getElem?_take, List.getElem?_append, List.getElem?_drop, List.length_append, List.length_take, Array.length_toList, c1]
            repeat' split
            all_goals first | rfl | (exfalso; omega) | (congr 1; omega)
          rw [e2]
          exact hsp
        · rw [List.all_eq_true] at h3 k4 ⊢
          intro z hz
          simp only [splice, List.mem_append] at hz
          rcases hz with (hz | hz) | hz
          · exact k4 z (List.mem_of_mem_take hz)
          · exact h3 z hz
          · exact k4 z (List.mem_of_mem_drop hz)
    · cases h
  · cases h
end
end Go.Abs
