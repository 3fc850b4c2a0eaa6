/- What the abstract machine's values and memory say of a world. -/
import Derived.Test.YtbpnjpacioibnaaAbs0
set_option linter.unusedVariables false
set_option linter.unusedSimpArgs false
namespace Go.Abs
open Go Go.RowKit

structure Cx where
  ι : Nat → Option Nat
  F : Nat → Prop
  M : Mem
  w : World

def Mem.gone (M : Mem) (i g : Nat) : Prop := i < M.next ∧ ∀ n, M.len i = some n → g < n
def Mem.goneM (M : Mem) (i : Nat) : Prop := i < M.next ∧ M.get i = Option.none

mutual
def VR (X : Cx) : AV → Value → Prop
  | .undef, _ => True
  | .bool b, v => v = .bool b
  | .int k n, v => v = .int k n
  | .str s, v => v = .string s
  | .nilS, v => v = .slice none 0 0
  | .row cs len, v => (cs = [] ∧ len = 0 ∧ ∃ a cap, v = .slice a 0 cap) ∨
      ∃ b off cap cur e fz, v = .slice (some ⟨b, off, none⟩) len cap ∧ X.F b ∧ X.w.heap[b]? = some (.cells cur e fz) ∧ VRs X cs ((cur.toList.drop off).take cs.length) ∧ len ≤ cap
  | .ref i g off len, v => (X.M.gone i g ∧ ∃ a n c, v = .slice a n c) ∨
      ∃ e sz fz cs b cap cur f, X.M.get i = some (.cells e sz fz cs) ∧ cs.length = g ∧ X.ι i = some b ∧ v = .slice (some ⟨b, off, none⟩) len cap ∧ X.w.heap[b]? = some (.cells cur e f) ∧ off + cap * sz = cur.size ∧ len ≤ cap
  | .own .., _ => False
  | .nilP, v => v = .pointer none
  | .ptr i g off, v => (X.M.gone i g ∧ ∃ a, v = .pointer a) ∨ (X.M.len i = some g ∧ ∃ b, X.ι i = some b ∧ v = .pointer (some ⟨b, off, none⟩))
  | .rptr cs, v => ∃ b off cur e fz, v = .pointer (some ⟨b, off, none⟩) ∧ X.F b ∧ X.w.heap[b]? = some (.cells cur e fz) ∧ VRs X cs ((cur.toList.drop off).take cs.length)
  | .agg cs, v => ∃ l, v = .agg l ∧ VRs X cs l.toList
  | .tup cs, v => ∃ l, v = .tuple l ∧ VRs X cs l.toList
  | .func f p q, v => ∃ p' q', v = .func (.func f) p' q' ∧ VRs X p p'.toList ∧ VRs X q q'.toList
  | .nilF, v => v = .nilFunc
  | .nilM, v => v = .map none
  | .map i, v => ∃ r, v = .map r ∧ (X.M.goneM i ∨ ∃ b es c, X.M.get i = some (.map es c) ∧ X.ι i = some b ∧ r = some b)
  | .nilI, v => v = .nilIface
  | .iface t u, v => ∃ y, v = .iface t y ∧ VR X u y
  | .iter i, v => ∃ r, v = .pointer r ∧ (X.M.goneM i ∨ ∃ b s p, X.M.get i = some (.sit s p) ∧ X.ι i = some b ∧ r = some ⟨b, 0, none⟩)
def VRs (X : Cx) : List AV → List Value → Prop
  | [], l => l = []
  | x :: xs, l => ∃ y ys, l = y :: ys ∧ VR X x y ∧ VRs X xs ys
end

theorem VRs.len {X : Cx} : ∀ {cs : List AV} {l : List Value}, VRs X cs l → l.length = cs.length
  | [], l, h => by simp only [VRs] at h; subst h; rfl
  | x :: xs, l, h => by
    simp only [VRs] at h
    obtain ⟨y, ys, rfl, _, h⟩ := h
    simp [h.len]
theorem VRs.get {X : Cx} : ∀ {cs : List AV} {l : List Value} {k : Nat} {v : AV}, VRs X cs l → cs[k]? = some v → ∃ x, l[k]? = some x ∧ VR X v x
  | [], l, k, v, h, hv => by simp at hv
  | x :: xs, l, k, v, h, hv => by
    simp only [VRs] at h
    obtain ⟨y, ys, rfl, h1, h⟩ := h
    cases k with
    | zero => simp at hv; subst hv; exact ⟨y, rfl, h1⟩
    | succ k => simp at hv ⊢; exact h.get hv
theorem VRs.mk {X : Cx} : ∀ {cs : List AV} {l : List Value}, l.length = cs.length → (∀ (k : Nat) (v : AV), cs[k]? = some v → ∃ x, l[k]? = some x ∧ VR X v x) → VRs X cs l
  | [], l, h, _ => by simp only [VRs]; exact List.eq_nil_of_length_eq_zero h
  | x :: xs, l, h, hk => by
    cases l with
    | nil => simp at h
    | cons y ys =>
      simp only [VRs]
      obtain ⟨z, hz, h1⟩ := hk 0 x rfl
      simp at hz
      subst hz
      exact ⟨_, ys, rfl, h1, VRs.mk (by simpa using h) fun k v hv => by simpa using hk (k + 1) v (by simpa using hv)⟩
theorem VRs.take {X : Cx} {cs : List AV} {l : List Value} (h : VRs X cs l) (n : Nat) : VRs X (cs.take n) (l.take n) := by
  refine VRs.mk (by simp [h.len]) fun k v hv => ?_
  rw [List.getElem?_take] at hv ⊢
  split at hv
  · rename_i hk
    simpa [hk] using h.get hv
  · cases hv
theorem VRs.drop {X : Cx} {cs : List AV} {l : List Value} (h : VRs X cs l) (n : Nat) : VRs X (cs.drop n) (l.drop n) := by
  refine VRs.mk (by simp [h.len]) fun k v hv => ?_
  rw [List.getElem?_drop] at hv ⊢
  exact h.get hv
theorem VRs.append {X : Cx} {cs ds : List AV} {l m : List Value} (h : VRs X cs l) (k : VRs X ds m) : VRs X (cs ++ ds) (l ++ m) := by
  have e1 := h.len
  refine VRs.mk (by simp [h.len, k.len]) fun j v hv => ?_
  rw [List.getElem?_append] at hv ⊢
  rw [e1]
  split at hv
  · rename_i hj; rw [if_pos hj]; exact h.get hv
  · rename_i hj; rw [if_neg hj]; exact k.get hv
theorem VRs.rep {X : Cx} {v : AV} {x : Value} (h : VR X v x) : ∀ n, VRs X (List.replicate n v) (List.replicate n x)
  | 0 => rfl
  | n + 1 => ⟨_, _, rfl, h, VRs.rep h n⟩

/-- a map's entries -/
def MR (X : Cx) : List (AV × AV × Nat) → List MapEntry → Prop
  | [], l => l = []
  | (k, v, n) :: r, l => ∃ m ms, l = m :: ms ∧ VR X k m.key ∧ VR X v m.val ∧ m.born = n ∧ MR X r ms

structure Rl (X : Cx) : Prop where
  inj : ∀ i j b, X.ι i = some b → X.ι j = some b → i = j
  lt : ∀ i b, X.ι i = some b → i < X.M.next ∧ b < X.w.heap.size
  Flt : ∀ b, X.F b → b < X.w.heap.size
  dom : ∀ i o, X.M.get i = some o → i < X.M.next
  cells : ∀ i b e sz fz cs, X.M.get i = some (.cells e sz fz cs) → X.ι i = some b →
    (∃ cur, X.w.heap[b]? = some (.cells cur e (0, 0)) ∧ cs.length ≤ cur.size ∧ VRs X cs (cur.toList.take cs.length)) ∧ cs.all AV.cell = true ∧ (X.F b ↔ fz = true)
  sit : ∀ i b s p, X.M.get i = some (.sit s p) → X.ι i = some b → X.w.heap[b]? = some (.stringIter s p) ∧ ¬ X.F b
  map : ∀ i b es c, X.M.get i = some (.map es c) → X.ι i = some b → (∃ ms, X.w.heap[b]? = some (.map ms c) ∧ MR X es ms.toList) ∧ ¬ X.F b

/-- may a block be written? -/
def AO.open : AO → Bool
  | .cells _ _ fz _ => !fz
  | _ => true

structure Ev0 (X Y : Cx) : Prop where
  os : Y.w.os = X.w.os
  tape : Y.w.tape = X.w.tape
  output : Y.w.output = X.w.output
  size : X.w.heap.size ≤ Y.w.heap.size
  next : X.M.next ≤ Y.M.next
  Fsub : ∀ b, X.F b → Y.F b
  Fnew : ∀ b, Y.F b → X.F b ∨ X.w.heap.size ≤ b ∨ ∃ i o, X.ι i = some b ∧ X.M.get i = some o
  keep : ∀ b, b < X.w.heap.size → (∀ i o, X.ι i = some b → X.M.get i = some o → o.open = false) → Y.w.heap[b]? = X.w.heap[b]?
  new : ∀ i b, Y.ι i = some b → X.ι i = some b ∨ X.w.heap.size ≤ b
  gone : ∀ i, i < X.M.next → X.M.get i = none → Y.M.get i = none
  cells : ∀ i e sz fz cs, X.M.get i = some (.cells e sz fz cs) → Y.M.get i = none ∨ ∃ fz' cs', Y.M.get i = some (.cells e sz fz' cs') ∧ cs.length ≤ cs'.length ∧ (fz = true → fz' = true) ∧
    (cs.length = cs'.length → ∀ b, X.ι i = some b → Y.ι i = some b ∧ ∀ cur e' f, X.w.heap[b]? = some (.cells cur e' f) → ∃ cur', Y.w.heap[b]? = some (.cells cur' e' f) ∧ cur'.size = cur.size)
  map : ∀ i es c, X.M.get i = some (.map es c) → Y.M.get i = none ∨ ∃ es' c', Y.M.get i = some (.map es' c') ∧ ∀ b, X.ι i = some b → Y.ι i = some b
  sit : ∀ i s p, X.M.get i = some (.sit s p) → Y.M.get i = none ∨ ∃ s' p', Y.M.get i = some (.sit s' p') ∧ ∀ b, X.ι i = some b → Y.ι i = some b

structure Ev (X Y : Cx) : Prop extends Ev0 X Y where
  unborn : ∀ i o, X.M.get i = some o → X.ι i = none → Y.M.get i = some o ∧ Y.ι i = none

theorem Mem.len_some {M : Mem} {i n : Nat} (h : M.len i = some n) : ∃ e sz fz cs, M.get i = some (.cells e sz fz cs) ∧ cs.length = n := by
  unfold Mem.len at h
  split at h
  · rename_i e sz fz cs hg
    exact ⟨e, sz, fz, cs, hg, Option.some.inj h⟩
  · cases h
theorem Mem.len_of {M : Mem} {i e sz : Nat} {fz : Bool} {cs : List AV} (h : M.get i = some (.cells e sz fz cs)) : M.len i = some cs.length := by
  unfold Mem.len; rw [h]

namespace Ev0
variable {X Y Z : Cx}
theorem goneC (E : Ev0 X Y) {i g : Nat} (h : X.M.gone i g) : Y.M.gone i g := by
  refine ⟨Nat.lt_of_lt_of_le h.1 E.next, fun n hn => ?_⟩
  obtain ⟨e, sz, fz, cs, hg, rfl⟩ := Mem.len_some hn
  cases hx : X.M.get i with
  | none => rw [E.gone i h.1 hx] at hg; cases hg
  | some o =>
    cases o with
    | cells e' sz' fz' cs' =>
      rcases E.cells i e' sz' fz' cs' hx with h0 | ⟨f2, c2, h2, hle, _⟩
      · rw [h0] at hg; cases hg
      · rw [h2] at hg
        obtain ⟨rfl, rfl, rfl, rfl⟩ : e' = e ∧ sz' = sz ∧ f2 = fz ∧ c2 = cs := by simpa using hg
        exact Nat.lt_of_lt_of_le (h.2 _ (Mem.len_of hx)) hle
    | map es c => rcases E.map i es c hx with h0 | ⟨_, _, h0, _⟩ <;> rw [h0] at hg <;> cases hg
    | sit s p => rcases E.sit i s p hx with h0 | ⟨_, _, h0, _⟩ <;> rw [h0] at hg <;> cases hg
theorem goneM (E : Ev0 X Y) {i : Nat} (h : X.M.goneM i) : Y.M.goneM i := ⟨Nat.lt_of_lt_of_le h.1 E.next, E.gone i h.1 h.2⟩
theorem keepF (E : Ev0 X Y) (R : Rl X) {b : Nat} (h : X.F b) : Y.w.heap[b]? = X.w.heap[b]? := by
  refine E.keep b (R.Flt b h) fun i o hi ho => ?_
  cases o with
  | cells e sz fz cs =>
    have := (R.cells i b e sz fz cs ho hi).2.2.1 h
    simp [AO.open, this]
  | map es c => exact absurd h (R.map i b es c ho hi).2
  | sit s p => exact absurd h (R.sit i b s p ho hi).2
mutual
theorem vr (E : Ev0 X Y) (R : Rl X) : ∀ {v : AV} {x : Value}, VR X v x → VR Y v x
  | .undef, x, _ => by simp only [VR]
  | .bool b, x, h => by simpa only [VR] using h
  | .int k n, x, h => by simpa only [VR] using h
  | .str s, x, h => by simpa only [VR] using h
  | .nilS, x, h => by simpa only [VR] using h
  | .row cs len, x, h => by
    simp only [VR] at h ⊢
    rcases h with h | ⟨b, off, cap, cur, e, fz, h1, h2, h3, h4, h5⟩
    · exact .inl h
    · exact .inr ⟨b, off, cap, cur, e, fz, h1, E.Fsub b h2, (E.keepF R h2).trans h3, vrs E R h4, h5⟩
  | .ref i g off len, x, h => by
    simp only [VR] at h ⊢
    rcases h with ⟨h, hs⟩ | ⟨e, sz, fz, cs, b, cap, cur, f, h1, h2, h3, h4, h5, h6, hlc⟩
    · exact .inl ⟨E.goneC h, hs⟩
    · rcases E.cells i e sz fz cs h1 with h0 | ⟨fz', cs', h7, h8, _, h9⟩
      · exact .inl ⟨⟨Nat.lt_of_lt_of_le (R.dom i _ h1) E.next, fun n hn => by obtain ⟨_, _, _, _, hg, _⟩ := Mem.len_some hn; rw [h0] at hg; cases hg⟩, _, _, _, h4⟩
      · by_cases hl : cs.length = cs'.length
        · obtain ⟨h10, h11⟩ := h9 hl b h3
          obtain ⟨cur', h12, h13⟩ := h11 cur e f h5
          exact .inr ⟨e, sz, fz', cs', b, cap, cur', f, h7, hl ▸ h2, h10, h4, h12, h6.trans h13.symm, hlc⟩
        · exact .inl ⟨⟨Nat.lt_of_lt_of_le (R.dom i _ h1) E.next, fun n hn => by rw [Mem.len_of h7] at hn; cases hn; omega⟩, _, _, _, h4⟩
  | .own .., x, h => by simp only [VR] at h
  | .nilP, x, h => by simpa only [VR] using h
  | .ptr i g off, x, h => by
    simp only [VR] at h ⊢
    rcases h with ⟨h, hs⟩ | ⟨h1, b, h3, h4⟩
    · exact .inl ⟨E.goneC h, hs⟩
    · obtain ⟨e, sz, fz, cs, hg, rfl⟩ := Mem.len_some h1
      rcases E.cells i e sz fz cs hg with h0 | ⟨fz', cs', h7, h8, _, h9⟩
      · exact .inl ⟨⟨Nat.lt_of_lt_of_le (R.dom i _ hg) E.next, fun n hn => by obtain ⟨_, _, _, _, hg, _⟩ := Mem.len_some hn; rw [h0] at hg; cases hg⟩, _, h4⟩
      · by_cases hl : cs.length = cs'.length
        · exact .inr ⟨by rw [Mem.len_of h7, hl], b, (h9 hl b h3).1, h4⟩
        · exact .inl ⟨⟨Nat.lt_of_lt_of_le (R.dom i _ hg) E.next, fun n hn => by rw [Mem.len_of h7] at hn; cases hn; omega⟩, _, h4⟩
  | .rptr cs, x, h => by
    simp only [VR] at h ⊢
    obtain ⟨b, off, cur, e, fz, h1, h2, h3, h4⟩ := h
    exact ⟨b, off, cur, e, fz, h1, E.Fsub b h2, (E.keepF R h2).trans h3, vrs E R h4⟩
  | .agg cs, x, h => by
    simp only [VR] at h ⊢
    obtain ⟨l, h1, h2⟩ := h
    exact ⟨l, h1, vrs E R h2⟩
  | .tup cs, x, h => by
    simp only [VR] at h ⊢
    obtain ⟨l, h1, h2⟩ := h
    exact ⟨l, h1, vrs E R h2⟩
  | .func f p q, x, h => by
    simp only [VR] at h ⊢
    obtain ⟨p', q', h1, h2, h3⟩ := h
    exact ⟨p', q', h1, vrs E R h2, vrs E R h3⟩
  | .nilF, x, h => by simpa only [VR] using h
  | .nilM, x, h => by simpa only [VR] using h
  | .map i, x, h => by
    simp only [VR] at h ⊢
    obtain ⟨r, h1, h2⟩ := h
    refine ⟨r, h1, ?_⟩
    rcases h2 with h2 | ⟨b, es, c, h2, h3, h4⟩
    · exact .inl (E.goneM h2)
    · rcases E.map i es c h2 with h0 | ⟨es', c', h5, h6⟩
      · exact .inl ⟨Nat.lt_of_lt_of_le (R.dom i _ h2) E.next, h0⟩
      · exact .inr ⟨b, es', c', h5, h6 b h3, h4⟩
  | .nilI, x, h => by simpa only [VR] using h
  | .iface t u, x, h => by
    simp only [VR] at h ⊢
    obtain ⟨y, h1, h2⟩ := h
    exact ⟨y, h1, vr E R h2⟩
  | .iter i, x, h => by
    simp only [VR] at h ⊢
    obtain ⟨r, h1, h2⟩ := h
    refine ⟨r, h1, ?_⟩
    rcases h2 with h2 | ⟨b, s, p, h2, h3, h4⟩
    · exact .inl (E.goneM h2)
    · rcases E.sit i s p h2 with h0 | ⟨s', p', h5, h6⟩
      · exact .inl ⟨Nat.lt_of_lt_of_le (R.dom i _ h2) E.next, h0⟩
      · exact .inr ⟨b, s', p', h5, h6 b h3, h4⟩
theorem vrs (E : Ev0 X Y) (R : Rl X) : ∀ {cs : List AV} {l : List Value}, VRs X cs l → VRs Y cs l
  | [], l, h => by simpa only [VRs] using h
  | v :: vs, l, h => by
    simp only [VRs] at h ⊢
    obtain ⟨y, ys, h1, h2, h3⟩ := h
    exact ⟨y, ys, h1, vr E R h2, vrs E R h3⟩
end
theorem mr (E : Ev0 X Y) (R : Rl X) : ∀ {es : List (AV × AV × Nat)} {l : List MapEntry}, MR X es l → MR Y es l
  | [], l, h => h
  | (k, v, n) :: r, l, h => by
    obtain ⟨m, ms, h1, h2, h3, h4, h5⟩ := h
    exact ⟨m, ms, h1, E.vr R h2, E.vr R h3, h4, mr E R h5⟩
theorem refl (X : Cx) : Ev0 X X where
  os := rfl
  tape := rfl
  output := rfl
  size := Nat.le_refl _
  next := Nat.le_refl _
  Fsub := fun _ h => h
  Fnew := fun _ h => .inl h
  keep := fun _ _ _ => rfl
  new := fun _ _ h => .inl h
  gone := fun _ _ h => h
  cells := fun _ _ _ fz cs h => .inr ⟨fz, cs, h, Nat.le_refl _, id, fun _ _ hb => ⟨hb, fun cur _ _ h => ⟨cur, h, rfl⟩⟩⟩
  map := fun _ es c h => .inr ⟨es, c, h, fun _ h => h⟩
  sit := fun _ s p h => .inr ⟨s, p, h, fun _ h => h⟩
theorem trans (E : Ev0 X Y) (G : Ev0 Y Z) (R : Rl X) : Ev0 X Z where
  os := G.os.trans E.os
  tape := G.tape.trans E.tape
  output := G.output.trans E.output
  size := Nat.le_trans E.size G.size
  next := Nat.le_trans E.next G.next
  Fsub := fun b h => G.Fsub b (E.Fsub b h)
  Fnew := fun b h => by
    rcases G.Fnew b h with h | h | ⟨i, o, h1, h2⟩
    · exact E.Fnew b h
    · exact .inr (.inl (Nat.le_trans E.size h))
    · rcases E.new i b h1 with h3 | h3
      · cases hx : X.M.get i with
        | none => rw [E.gone i (R.lt i b h3).1 hx] at h2; cases h2
        | some o' => exact .inr (.inr ⟨i, o', h3, hx⟩)
      · exact .inr (.inl h3)
  keep := fun b hb h => by
    rw [G.keep b (Nat.lt_of_lt_of_le hb E.size) fun i o hi ho => ?_, E.keep b hb h]
    rcases E.new i b hi with h3 | h3
    · cases hx : X.M.get i with
      | none => rw [E.gone i (R.lt i b h3).1 hx] at ho; cases ho
      | some o' =>
        have h4 := h i o' h3 hx
        cases o' with
        | cells e sz fz cs =>
          simp [AO.open] at h4
          rcases E.cells i e sz fz cs hx with h0 | ⟨fz', cs', h7, _, h8, _⟩
          · rw [h0] at ho; cases ho
          · rw [h7] at ho; cases ho; simp [AO.open, h8 h4]
        | map es c => simp [AO.open] at h4
        | sit s p => simp [AO.open] at h4
    · omega
  new := fun i b h => by
    rcases G.new i b h with h | h
    · exact E.new i b h
    · exact .inr (Nat.le_trans E.size h)
  gone := fun i h h' => G.gone i (Nat.lt_of_lt_of_le h E.next) (E.gone i h h')
  cells := fun i e sz fz cs h => by
    have hn := R.dom i _ h
    rcases E.cells i e sz fz cs h with h0 | ⟨fz', cs', h1, h2, h3, h4⟩
    · exact .inl (G.gone i (Nat.lt_of_lt_of_le hn E.next) h0)
    · rcases G.cells i e sz fz' cs' h1 with h0 | ⟨fz2, cs2, k1, k2, k3, k4⟩
      · exact .inl h0
      · refine .inr ⟨fz2, cs2, k1, Nat.le_trans h2 k2, fun hf => k3 (h3 hf), fun hl b hb => ?_⟩
        obtain ⟨a1, a2⟩ := h4 (by omega) b hb
        obtain ⟨b1, b2⟩ := k4 (by omega) b a1
        refine ⟨b1, fun cur e' f hc => ?_⟩
        obtain ⟨cur', c1, c2⟩ := a2 cur e' f hc
        obtain ⟨cur2, d1, d2⟩ := b2 cur' e' f c1
        exact ⟨cur2, d1, d2.trans c2⟩
  map := fun i es c h => by
    have hn := R.dom i _ h
    rcases E.map i es c h with h0 | ⟨es', c', h1, h2⟩
    · exact .inl (G.gone i (Nat.lt_of_lt_of_le hn E.next) h0)
    · rcases G.map i es' c' h1 with h0 | ⟨es2, c2, k1, k2⟩
      · exact .inl h0
      · exact .inr ⟨es2, c2, k1, fun b hb => k2 b (h2 b hb)⟩
  sit := fun i s p h => by
    have hn := R.dom i _ h
    rcases E.sit i s p h with h0 | ⟨s', p', h1, h2⟩
    · exact .inl (G.gone i (Nat.lt_of_lt_of_le hn E.next) h0)
    · rcases G.sit i s' p' h1 with h0 | ⟨s2, p2, k1, k2⟩
      · exact .inl h0
      · exact .inr ⟨s2, p2, k1, fun b hb => k2 b (h2 b hb)⟩
end Ev0
theorem Ev.refl (X : Cx) : Ev X X := ⟨.refl X, fun _ _ h h' => ⟨h, h'⟩⟩
theorem Ev.trans {X Y Z : Cx} (E : Ev X Y) (G : Ev Y Z) (R : Rl X) : Ev X Z :=
  ⟨E.toEv0.trans G.toEv0 R, fun i o h h' => let ⟨a, b⟩ := E.unborn i o h h'; G.unborn i o a b⟩

/-- the same heap -/
theorem Cx.same (X : Cx) (R : Rl X) (w : World) (h1 : w.heap = X.w.heap) (h2 : w.os = X.w.os) (h3 : w.tape = X.w.tape) (h4 : w.output = X.w.output) :
    Rl { X with w := w } ∧ Ev X { X with w := w } := by
  have E : Ev X { X with w := w } :=
    ⟨{ Ev0.refl X with os := h2, tape := h3, output := h4, size := by simp [h1], keep := fun b _ _ => by simp [h1], cells := fun i e sz fz cs h => .inr ⟨fz, cs, h, Nat.le_refl _, id, fun _ b hb => ⟨hb, fun cur e' f h => ⟨cur, by simpa [h1] using h, rfl⟩⟩⟩ }, fun _ _ h h' => ⟨h, h'⟩⟩
  refine ⟨⟨R.inj, fun i b h => by simpa [h1] using R.lt i b h, fun b h => by simpa [h1] using R.Flt b h, R.dom, fun i b e sz fz cs h h' => ?_, fun i b s p h h' => by simpa [h1] using R.sit i b s p h h', fun i b es c h h' => ?_⟩, E⟩
  · obtain ⟨⟨cur, a1, a2, a3⟩, b, c⟩ := R.cells i b e sz fz cs h h'
    exact ⟨⟨cur, by simpa [h1] using a1, a2, E.vrs R a3⟩, b, c⟩
  · obtain ⟨⟨ms, a1, a3⟩, b_⟩ := R.map i b es c h h'
    exact ⟨⟨ms, by simpa [h1] using a1, E.mr R a3⟩, b_⟩

theorem get_add_ne {M : Mem} {o : AO} {i : Nat} (h : i ≠ M.next) : (M.add o).get i = M.get i := by
  have : Nat.beq i M.next = false := by cases hb : Nat.beq i M.next with | false => rfl | true => exact absurd (Nat.eq_of_beq_eq_true hb) h
  simp [Mem.get, Mem.add, lkp, this]
theorem get_add_eq {M : Mem} {o : AO} : (M.add o).get M.next = some o := by simp [Mem.get, Mem.add, lkp]
theorem lkp_upd_eq {i : Nat} {o : AO} : ∀ {l : List (Nat × AO)} {p : AO}, lkp i l = some p → lkp i (upd i o l) = some o
  | [], p, h => by simp [lkp] at h
  | (j, q) :: r, p, h => by
    simp only [lkp, upd] at h ⊢
    cases hb : Nat.beq i j with
    | true => simp [lkp, hb]
    | false => simp [hb] at h; simp [lkp, hb, lkp_upd_eq h]
theorem lkp_upd_ne {i j : Nat} {o : AO} (h : j ≠ i) : ∀ {l : List (Nat × AO)}, lkp j (upd i o l) = lkp j l
  | [] => rfl
  | (k, q) :: r => by
    simp only [upd]
    cases hb : Nat.beq i k with
    | true =>
      have e := Nat.eq_of_beq_eq_true hb
      subst e
      have : Nat.beq j i = false := by cases hb : Nat.beq j i with | false => rfl | true => exact absurd (Nat.eq_of_beq_eq_true hb) h
      simp [lkp, this]
    | false => simp only [cond_false, lkp, lkp_upd_ne h]
theorem get_set_eq {M : Mem} {i : Nat} {o p : AO} (h : M.get i = some p) : (M.set i o).get i = some o := lkp_upd_eq h
theorem get_set_ne {M : Mem} {i j : Nat} {o : AO} (h : j ≠ i) : (M.set i o).get j = M.get j := lkp_upd_ne h

/-- a block that no world has yet -/
def Cx.plus (X : Cx) (o : AO) : Cx := { X with M := X.M.add o }
theorem Rl.fresh {X : Cx} (R : Rl X) : X.M.get X.M.next = none ∧ X.ι X.M.next = none := by
  constructor
  · cases h : X.M.get X.M.next with
    | none => rfl
    | some o => exact absurd (R.dom _ _ h) (Nat.lt_irrefl _)
  · cases h : X.ι X.M.next with
    | none => rfl
    | some b => exact absurd (R.lt _ _ h).1 (Nat.lt_irrefl _)
theorem Cx.plus_ok (X : Cx) (R : Rl X) (o : AO) : Rl (X.plus o) ∧ Ev X (X.plus o) := by
  have hne : ∀ {i p}, X.M.get i = some p → (X.M.add o).get i = some p := fun {i p} h => by
    rw [get_add_ne (Nat.ne_of_lt (R.dom i p h)), h]
  have hback : ∀ {i p b}, (X.M.add o).get i = some p → X.ι i = some b → X.M.get i = some p := fun {i p b} h hb => by
    rwa [get_add_ne (Nat.ne_of_lt (R.lt i b hb).1)] at h
  have E : Ev X (X.plus o) :=
    ⟨{ Ev0.refl X with
        next := Nat.le_succ _
        gone := fun i h h' => by show (X.M.add o).get i = none; rwa [get_add_ne (Nat.ne_of_lt h)]
        cells := fun i e sz fz cs h => .inr ⟨fz, cs, hne h, Nat.le_refl _, id, fun _ b hb => ⟨hb, fun cur e' f h => ⟨cur, h, rfl⟩⟩⟩
        map := fun i es c h => .inr ⟨es, c, hne h, fun _ h => h⟩
        sit := fun i s p h => .inr ⟨s, p, hne h, fun _ h => h⟩ }, fun i p h h' => ⟨hne h, h'⟩⟩
  refine ⟨⟨R.inj, fun i b h => ⟨Nat.lt_succ_of_lt (R.lt i b h).1, (R.lt i b h).2⟩, R.Flt, fun i p h => ?_, fun i b e sz fz cs h h' => ?_, fun i b s p h h' => R.sit i b s p (hback h h') h', fun i b es c h h' => ?_⟩, E⟩
  · show i < X.M.next + 1
    by_cases hi : i = X.M.next
    · omega
    · have h : (X.M.add o).get i = some p := h
      rw [get_add_ne hi] at h
      have := R.dom i p h
      omega
  · obtain ⟨⟨cur, a1, a2, a3⟩, b, c⟩ := R.cells i b e sz fz cs (hback h h') h'
    exact ⟨⟨cur, a1, a2, E.vrs R a3⟩, b, c⟩
  · obtain ⟨⟨ms, a1, a3⟩, b_⟩ := R.map i b es c (hback h h') h'
    exact ⟨⟨ms, a1, E.mr R a3⟩, b_⟩
/-- the world makes it -/
def Cx.born (X : Cx) (i : Nat) (o : Obj) : Cx := { X with ι := fun j => if j = i then some X.w.heap.size else X.ι j, w := X.w.alloc o }
theorem heap_alloc_old' (w : World) (o : Obj) {k : Nat} (h : k < w.heap.size) : (w.alloc o).heap[k]? = w.heap[k]? := Below.heap_alloc w o k h
theorem heap_alloc_new' (w : World) (o : Obj) : (w.alloc o).heap[w.heap.size]? = some o := heap_alloc_new w o
theorem Cx.born_ev0 (X : Cx) (R : Rl X) {i : Nat} (hi : X.ι i = none) (o : Obj) : Ev0 X (X.born i o) where
  os := rfl
  tape := rfl
  output := rfl
  size := by simp [Cx.born]
  next := Nat.le_refl _
  Fsub := fun _ h => h
  Fnew := fun _ h => .inl h
  keep := fun b hb _ => heap_alloc_old' _ _ hb
  new := fun j b h => by
    simp only [Cx.born] at h
    split at h
    · obtain rfl := Option.some.inj h; exact .inr (Nat.le_refl _)
    · exact .inl h
  gone := fun _ _ h => h
  cells := fun j e sz fz cs h => .inr ⟨fz, cs, h, Nat.le_refl _, id, fun _ b hb => ⟨by
    have : j ≠ i := fun e => by subst e; rw [hi] at hb; cases hb
    simp [Cx.born, this, hb], fun cur e' f h => ⟨cur, (heap_alloc_old' _ _ (R.lt j b hb).2).trans h, rfl⟩⟩⟩
  map := fun j es c h => .inr ⟨es, c, h, fun b hb => by
    have : j ≠ i := fun e => by subst e; rw [hi] at hb; cases hb
    simp [Cx.born, this, hb]⟩
  sit := fun j s p h => .inr ⟨s, p, h, fun b hb => by
    have : j ≠ i := fun e => by subst e; rw [hi] at hb; cases hb
    simp [Cx.born, this, hb]⟩
theorem Cx.born_ok (X : Cx) (R : Rl X) {i e sz : Nat} {cs : List AV} {cur : Array Value} (hi : X.ι i = none) (hg : X.M.get i = some (.cells e sz false cs))
    (hl : cs.length ≤ cur.size) (hv : VRs X cs (cur.toList.take cs.length)) (hc : cs.all AV.cell = true) : Rl (X.born i (.cells cur e)) := by
  have E := X.born_ev0 R hi (.cells cur e)
  have hnew : ∀ {j b}, (X.born i (.cells cur e)).ι j = some b → (j = i ∧ b = X.w.heap.size) ∨ (j ≠ i ∧ X.ι j = some b) := fun {j b} h => by
    simp only [Cx.born] at h
    split at h
    · rename_i h0; exact .inl ⟨h0, (Option.some.inj h).symm⟩
    · rename_i h0; exact .inr ⟨h0, h⟩
  refine ⟨fun j k b h h' => ?_, fun j b h => ?_, fun b h => ?_, R.dom, fun j b e2 sz2 fz2 cs2 h h' => ?_, fun j b s p h h' => ?_, fun j b es c h h' => ?_⟩
  · rcases hnew h with ⟨rfl, rfl⟩ | ⟨_, h1⟩ <;> rcases hnew h' with ⟨rfl, h2⟩ | ⟨_, h2⟩
    · rfl
    · exact absurd (R.lt _ _ h2).2 (Nat.lt_irrefl _)
    · subst h2; exact absurd (R.lt _ _ h1).2 (Nat.lt_irrefl _)
    · exact R.inj _ _ _ h1 h2
  · show j < X.M.next ∧ b < (X.w.alloc _).heap.size
    simp only [World.size_alloc]
    rcases hnew h with ⟨rfl, rfl⟩ | ⟨_, h1⟩
    · exact ⟨R.dom _ _ hg, Nat.lt_succ_self _⟩
    · have := R.lt _ _ h1; omega
  · have := R.Flt b h
    show b < (X.w.alloc _).heap.size
    simp only [World.size_alloc]; omega
  · rcases hnew h' with ⟨rfl, rfl⟩ | ⟨hne, h1⟩
    · have h : X.M.get j = some (.cells e2 sz2 fz2 cs2) := h
      rw [hg] at h
      obtain ⟨rfl, rfl, rfl, rfl⟩ : e = e2 ∧ sz = sz2 ∧ false = fz2 ∧ cs = cs2 := by simpa using h
      refine ⟨⟨cur, heap_alloc_new' _ _, hl, E.vrs R hv⟩, hc, ⟨fun hF => absurd (R.Flt _ hF) (Nat.lt_irrefl _), fun h => by cases h⟩⟩
    · obtain ⟨⟨cur2, a1, a2, a3⟩, b2, c2⟩ := R.cells j b e2 sz2 fz2 cs2 h h1
      exact ⟨⟨cur2, (heap_alloc_old' _ _ (R.lt _ _ h1).2).trans a1, a2, E.vrs R a3⟩, b2, c2⟩
  · rcases hnew h' with ⟨rfl, rfl⟩ | ⟨hne, h1⟩
    · have h : X.M.get j = some (.sit s p) := h
      rw [hg] at h; cases h
    · obtain ⟨a, c⟩ := R.sit j b s p h h1
      exact ⟨(heap_alloc_old' _ _ (R.lt _ _ h1).2).trans a, c⟩
  · rcases hnew h' with ⟨rfl, rfl⟩ | ⟨hne, h1⟩
    · have h : X.M.get j = some (.map es c) := h
      rw [hg] at h; cases h
    · obtain ⟨⟨ms, a1, a3⟩, c_⟩ := R.map j b es c h h1
      exact ⟨⟨ms, (heap_alloc_old' _ _ (R.lt _ _ h1).2).trans a1, E.mr R a3⟩, c_⟩
theorem Cx.alloc_ok (X : Cx) (R : Rl X) {e sz : Nat} {cs : List AV} {cur : Array Value} (hl : cs.length ≤ cur.size) (hv : VRs X cs (cur.toList.take cs.length)) (hc : cs.all AV.cell = true) :
    Rl ((X.plus (.cells e sz false cs)).born X.M.next (.cells cur e)) ∧ Ev X ((X.plus (.cells e sz false cs)).born X.M.next (.cells cur e)) := by
  obtain ⟨R1, E1⟩ := X.plus_ok R (.cells e sz false cs)
  refine ⟨Cx.born_ok _ R1 R.fresh.2 get_add_eq hl (E1.vrs R hv) hc, E1.toEv0.trans (Cx.born_ev0 _ R1 R.fresh.2 _) R, fun i o h h' => ?_⟩
  have hne := Nat.ne_of_lt (R.dom i o h)
  exact ⟨by show (X.M.add _).get i = some o; rw [get_add_ne hne, h], by simp [Cx.born, Cx.plus, hne, h']⟩
/-- a block is written, or grows in its place, or moves to a new one -/
theorem Cx.put_ok (X : Cx) (R : Rl X) {i b e sz : Nat} {cs cs' : List AV} {cur cur' : Array Value} {w' : World} (hg : X.M.get i = some (.cells e sz false cs)) (hb : X.ι i = some b)
    (hcur : X.w.heap[b]? = some (.cells cur e (0, 0))) (h2 : w'.os = X.w.os) (h3 : w'.tape = X.w.tape) (h4 : w'.output = X.w.output) (hsz : w'.heap.size = X.w.heap.size)
    (hnb : w'.heap[b]? = some (.cells cur' e (0, 0))) (hoth : ∀ k, k ≠ b → w'.heap[k]? = X.w.heap[k]?) (hcs : cur'.size = cur.size) (hle : cs.length ≤ cs'.length) (hl : cs'.length ≤ cur'.size)
    (hv : VRs X cs' (cur'.toList.take cs'.length)) (hc : cs'.all AV.cell = true) :
    Rl { X with M := X.M.set i (.cells e sz false cs'), w := w' } ∧ Ev X { X with M := X.M.set i (.cells e sz false cs'), w := w' } := by
  have hFb : ¬ X.F b := fun hF => by have := (R.cells i b e sz false cs hg hb).2.2.1 hF; cases this
  have hself := get_set_eq (o := .cells e sz false cs') hg
  have E : Ev X { X with M := X.M.set i (.cells e sz false cs'), w := w' } := by
    refine ⟨⟨h2, h3, h4, Nat.le_of_eq hsz.symm, Nat.le_refl _, fun _ h => h, fun _ h => .inl h, fun k hk h => ?_, fun _ _ h => .inl h, fun j _ h => ?_, fun j e2 sz2 fz2 cs2 h => ?_, fun j es c h => ?_, fun j s p h => ?_⟩, fun j o h h' => ?_⟩
    · exact hoth k fun e' => by subst e'; have := h i _ hb hg; simp [AO.open] at this
    · show (X.M.set i _).get j = none
      have hne : j ≠ i := fun e' => by subst e'; rw [hg] at h; cases h
      rw [get_set_ne hne]; exact h
    · by_cases hj : j = i
      · subst hj
        rw [hg] at h
        obtain ⟨rfl, rfl, rfl, rfl⟩ : e = e2 ∧ sz = sz2 ∧ false = fz2 ∧ cs = cs2 := by simpa using h
        refine .inr ⟨false, cs', hself, hle, id, fun _ b' hb' => ⟨hb', fun c e' f hc' => ?_⟩⟩
        rw [hb] at hb'
        obtain rfl := Option.some.inj hb'
        rw [hcur] at hc'
        obtain ⟨rfl, rfl, rfl⟩ : cur = c ∧ e = e' ∧ (0, 0) = f := by simpa using hc'
        exact ⟨cur', hnb, hcs⟩
      · refine .inr ⟨fz2, cs2, (get_set_ne hj).trans h, Nat.le_refl _, id, fun _ b' hb' => ⟨hb', fun c e' f hc' => ⟨c, ?_, rfl⟩⟩⟩
        exact (hoth b' fun e' => hj (R.inj _ _ _ (e' ▸ hb') hb)).trans hc'
    · have hj : j ≠ i := fun e' => by subst e'; rw [hg] at h; cases h
      exact .inr ⟨es, c, (get_set_ne hj).trans h, fun _ h => h⟩
    · have hj : j ≠ i := fun e' => by subst e'; rw [hg] at h; cases h
      exact .inr ⟨s, p, (get_set_ne hj).trans h, fun _ h => h⟩
    · have hj : j ≠ i := fun e' => by subst e'; rw [hb] at h'; cases h'
      exact ⟨(get_set_ne hj).trans h, h'⟩
  refine ⟨⟨R.inj, fun j b' h => ?_, fun b' h => ?_, fun j o h => ?_, fun j b' e2 sz2 fz2 cs2 h h' => ?_, fun j b' s p h h' => ?_, fun j b' es c h h' => ?_⟩, E⟩
  · have := R.lt j b' h
    exact ⟨this.1, by show b' < w'.heap.size; omega⟩
  · have := R.Flt b' h
    show b' < w'.heap.size; omega
  · by_cases hj : j = i
    · subst hj; exact R.dom _ _ hg
    · exact R.dom _ _ ((get_set_ne hj).symm.trans h)
  · by_cases hj : j = i
    · subst hj
      have h := hself.symm.trans h
      obtain ⟨rfl, rfl, rfl, rfl⟩ : e = e2 ∧ sz = sz2 ∧ false = fz2 ∧ cs' = cs2 := by simpa using h
      have e1 : b = b' := Option.some.inj (hb.symm.trans h')
      subst e1
      exact ⟨⟨cur', hnb, hl, E.vrs R hv⟩, hc, ⟨fun hF => absurd hF hFb, fun h => by cases h⟩⟩
    · obtain ⟨⟨cur2, a1, a2, a3⟩, b2, c2⟩ := R.cells j b' e2 sz2 fz2 cs2 ((get_set_ne hj).symm.trans h) h'
      exact ⟨⟨cur2, (hoth b' fun e' => hj (R.inj _ _ _ (e' ▸ h') hb)).trans a1, a2, E.vrs R a3⟩, b2, c2⟩
  · have hj : j ≠ i := fun e' => by subst e'; rw [hself] at h; cases h
    obtain ⟨a, c⟩ := R.sit j b' s p ((get_set_ne hj).symm.trans h) h'
    exact ⟨(hoth b' fun e' => hj (R.inj _ _ _ (e' ▸ h') hb)).trans a, c⟩
  · have hj : j ≠ i := fun e' => by subst e'; rw [hself] at h; cases h
    obtain ⟨⟨ms, a1, a3⟩, c_⟩ := R.map j b' es c ((get_set_ne hj).symm.trans h) h'
    exact ⟨⟨ms, (hoth b' fun e' => hj (R.inj _ _ _ (e' ▸ h') hb)).trans a1, E.mr R a3⟩, c_⟩
end Go.Abs
