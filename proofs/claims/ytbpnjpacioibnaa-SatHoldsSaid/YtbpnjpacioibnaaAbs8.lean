/- append, whole. -/
import Derived.Test.YtbpnjpacioibnaaAbs7
set_option linter.unusedVariables false
set_option linter.unusedSimpArgs false
namespace Go.Abs
open Go Go.RowKit
section
variable {P : Program} {X : Cx}
theorem Cx.drew_ok (X : Cx) (R : Rl X) : Rl { X with w := X.w.drew } ∧ Ev X { X with w := X.w.drew } := X.same R X.w.drew rfl rfl rfl rfl
theorem firstCells_at (w : World) {b off n c sz : Nat} {cur : Array Value} {e : TypeId} {f : Nat × Nat} (hb : w.heap[b]? = some (.cells cur e f)) (hl : off + n * sz ≤ cur.size) (len : Nat) :
    (Builtin.firstCells sz n (.slice (some ⟨b, off, none⟩) len c)).run P w = .ok ((cur.toList.drop off).take (n * sz)).toArray w :=
  run_firstCells_some (P := P) w sz n ⟨b, off, none⟩ len c _ (by simp; omega) fun j v hj => by
    rw [Addr.add_lit, cellAt w hb]
    rw [List.getElem?_take] at hj
    split at hj
    · rw [List.getElem?_drop] at hj; simpa using hj
    · cases hj
/-- the source of an append -/
theorem scells_ok (R : Rl X) {sz bytes : Nat} {z : Value} {u : TypeId} {d : TypeDesc} (hd : P.underlying u = some d) (hni : ∀ k, d ≠ .int k) {a : AV} {x : Value} {cs : List AV} {n : Nat} (h : scells X.M sz a = some (cs, n)) (hx : VR X a x) (hl : cs.length = n * sz) :
    ∃ news, Src P X.w sz bytes z u x n news ∧ VRs X cs news := by
  unfold scells at h
  split at h
  · cases h
    simp only [VR] at hx
    subst hx
    exact ⟨[], ⟨⟨d, hd, .inl ⟨hni, rfl, rfl, rfl⟩⟩, by simp⟩, rfl⟩
  · rename_i cs' n'
    cases hb : Nat.beq cs'.length (n' * sz) with
    | false => rw [hb] at h; cases h
    | true =>
      rw [hb] at h
      cases h
      simp only [VR] at hx
      rcases hx with ⟨rfl, rfl, a, c, rfl⟩ | ⟨b, off, cap, cur, e, fz, rfl, _, k1, k2, _⟩
      · refine ⟨[], ⟨⟨d, hd, .inl ⟨hni, rfl, ?_, ?_⟩⟩, by simp⟩, rfl⟩ <;> cases a <;> simp [Builtin.firstCells, loadCells, loadCellsFrom]
      · have h1 : min cs.length (cur.size - off) = cs.length := by have := k2.len; simpa using this
        rw [hl] at k2 h1
        by_cases h0 : n * sz = 0
        · refine ⟨_, ⟨⟨d, hd, .inl ⟨hni, rfl, ?_, ?_⟩⟩, by rw [k2.len, hl]⟩, k2⟩ <;> simp [Builtin.firstCells, loadCells, loadCellsFrom, h0]
        · exact ⟨_, ⟨⟨d, hd, .inl ⟨hni, rfl, firstCells_at X.w k1 (by omega) _, firstCells_at X.w.drew k1 (by omega) _⟩⟩, by rw [k2.len, hl]⟩, k2⟩
  · rename_i i g off n'
    split at h
    · rename_i e sz' fz cs' hg
      cases hb : (Nat.beq cs'.length g && Nat.ble (off + n' * sz) g) with
      | false => rw [hb] at h; cases h
      | true =>
        rw [hb] at h
        cases h
        simp only [Bool.and_eq_true] at hb
        have h1 := Nat.eq_of_beq_eq_true hb.1
        have h2 := Nat.le_of_ble_eq_true hb.2
        obtain ⟨e2, sz2, fz2, cs2, b, cap, cur, f, g1, g2, g3, rfl, g5, g6, g7⟩ := hx.ref_live (by unfold Mem.live; rw [hg]; exact hb.1)
        rw [hg] at g1
        obtain ⟨rfl, rfl, rfl, rfl⟩ : e = e2 ∧ sz' = sz2 ∧ fz = fz2 ∧ cs' = cs2 := by simpa using g1
        obtain ⟨⟨cur2, k1, k2, k3⟩, _⟩ := R.cells i b _ _ _ _ hg g3
        rw [k1] at g5
        obtain ⟨rfl, _⟩ : cur2 = cur ∧ _ := by simpa using g5
        have hv : VRs X ((cs'.drop off).take (n * sz)) ((cur2.toList.drop off).take (n * sz)) := by
          have := (k3.drop off).take (n * sz)
          rw [List.drop_take, List.take_take, Nat.min_eq_left (by omega)] at this
          exact this
        exact ⟨_, ⟨⟨d, hd, .inl ⟨hni, rfl, firstCells_at X.w k1 (by omega) _, firstCells_at X.w.drew k1 (by omega) _⟩⟩, by rw [hv.len, hl]⟩, hv⟩
    · cases h
  · cases h
theorem append_ok {T : Tab} (hT : TabOk P T) (R : Rl X) {ts : List TypeId} {s a r : AV} {x y : Value} {M' : Mem} {ty : TypeId} (h : aappend T X.M ts s a = some (r, M')) (hx : VR X s x) (hy : VR X a y) :
    Step X M' r fun w' v => (Builtin.append_ ts.toArray ty #[x, y]).run P X.w = .ok v w' := by
  unfold aappend at h
  split at h
  case h_2 => cases h
  rename_i t u
  split at h
  case h_2 => cases h
  rename_i _ _ e _ tu hte htu
  obtain ⟨_, d, _, _, hd, _, _, _, hk, _⟩ := hT.get hte
  obtain rfl := mkTK_slice hk
  obtain ⟨_, du, _, _, hdu, _, _, _, hku, _⟩ := hT.get htu
  split at h
  case h_2 => cases h
  rename_i te hee
  obtain ⟨i, de, z, hi, hde, hz, hs, hby, hke, hzz⟩ := hT.get hee
  cases hcc : (Nat.blt 0 te.sz && Nat.beq te.z.length te.sz) with
  | false => rw [hcc] at h; cases h
  | true =>
    rw [hcc] at h
    simp only [Bool.and_eq_true] at hcc
    have hsz0 : 0 < te.sz := Nat.le_of_ble_eq_true hcc.1
    have hzl := Nat.eq_of_beq_eq_true hcc.2
    have hzc : z.cells.size = te.sz := by rw [← hzl, ← hzz]; simp
    simp only [cond_true] at h
    obtain ⟨⟨new, n⟩, hsrc, h⟩ := Option.bind_eq_some_iff.1 h
    cases hc2 : (new.all AV.cell && Nat.beq new.length (n * te.sz)) with
    | false => simp only at h; rw [hc2] at h; cases h
    | true =>
      simp only at h
      rw [hc2] at h
      simp only [Bool.and_eq_true, cond_true] at hc2 h
      have hcell := hc2.1
      have hnl := Nat.eq_of_beq_eq_true hc2.2
      have hS : ∃ news, Src P X.w i.size i.bytes z u y n news ∧ VRs X new news := by
        rw [hs, hby]
        split at hsrc
        · rename_i k m hk'
          rw [hk'] at hku
          obtain rfl := mkTK_int hku
          cases hb : (decide (0 ≤ m) && decide (m * (te.bytes : Int) ≤ 2 ^ 47) && decide (m ≤ 2 ^ 62)) with
          | false => rw [hb] at hsrc; cases hsrc
          | true =>
            rw [hb] at hsrc
            cases hsrc
            simp only [Bool.and_eq_true, decide_eq_true_eq] at hb
            simp only [VR] at hy
            have hv := avOfs_ok X z.cells.toList
            rw [hzz] at hv
            refine ⟨(List.replicate m.toNat z.cells.toList).flatten, ⟨⟨_, hdu, .inr ⟨⟨_, rfl⟩, ?_, ?_, by omega, rfl, hzc⟩⟩, ?_⟩, VRs_reps hv _⟩
            · rw [hy, Int.toNat_of_nonneg hb.1.1]
            · rw [Int.toNat_of_nonneg hb.1.1]; omega
            · rw [len_rep]; simp [hzc]
        · cases hsrc
        · rename_i hni2 hni
          refine scells_ok R hdu (fun k e' => ?_) hsrc hy hnl
          subst e'
          first | exact hni _ hku.symm | exact hni2 _ hku.symm
      obtain ⟨news, hsr, hnv⟩ := hS
      have hnewl := hsr.len
      split at h
      · simp only [VR] at hx
        subst hx
        cases hn0 : Nat.beq n 0 with
        | true =>
          rw [hn0] at h
          cases h
          obtain rfl := Nat.eq_of_beq_eq_true hn0
          exact ⟨X, .slice none 0 0, rfl, R, Ev.refl X, by simp only [VR], by rw [app_room hd hi hz hsr (by omega)]; rfl⟩
        | false =>
          rw [hn0] at h
          cases hb : (Nat.ble (n * te.bytes) (2 ^ 47) && Nat.ble n (2 ^ 62)) with
          | false => simp only [cond_false] at h; rw [hb] at h; cases h
          | true =>
            simp only [cond_false] at h
            rw [hb] at h
            cases h
            simp only [Bool.and_eq_true] at hb
            have h1 := Nat.le_of_ble_eq_true hb.1
            have h2 := Nat.le_of_ble_eq_true hb.2
            have hnp : 0 < n := Nat.pos_of_ne_zero fun e => by subst e; cases hn0
            have hrun := app_grow (w := X.w) (base := none) (sLen := 0) (sCap := 0) (old := []) (ty := ty) hd hi hz hsr (by omega) (Nat.le_refl _) (by rw [hby]; simpa using h1) (by omega) (run_firstCells_none _ _ _ _ _)
            simp only [Nat.zero_add] at hrun
            have hge := grownCap_ge X.w n 0 e
            obtain ⟨R1, E1⟩ := X.drew_ok R
            have hsz : (#[] ++ news.toArray ++ Builtin.zeroCells z.cells (grownCap X.w n 0 e - n) : Array Value).size = grownCap X.w n 0 e * te.sz := by
              simp only [Array.size_append, List.size_toArray, size_zeroCells, hzc, hnewl, hs, List.length_nil, Nat.zero_add, ← Nat.add_mul]
              congr 1; omega
            have hl' : new.length ≤ (#[] ++ news.toArray ++ Builtin.zeroCells z.cells (grownCap X.w n 0 e - n) : Array Value).size := by
              rw [hsz, hnl]; exact Nat.mul_le_mul_right _ hge
            have hnv1 := E1.vrs R hnv
            have htk : (#[] ++ news.toArray ++ Builtin.zeroCells z.cells (grownCap X.w n 0 e - n) : Array Value).toList.take new.length = news := by
              simp only [Array.toList_append, List.nil_append]
              rw [← hnv.len, List.take_left]
            obtain ⟨R3, E3⟩ := Cx.alloc_ok _ R1 (cur := #[] ++ news.toArray ++ Builtin.zeroCells z.cells (grownCap X.w n 0 e - n)) (e := e) (sz := te.sz) (cs := new) hl' (by rw [htk]; exact hnv1) hcell
            refine ⟨_, _, rfl, R3, E1.trans E3 R, ?_, hrun⟩
            simp only [VR]
            exact .inr ⟨e, te.sz, false, new, X.w.heap.size, grownCap X.w n 0 e, _, (0, 0), get_add_eq, rfl, by simp [Cx.born, Cx.plus], rfl, heap_alloc_new' _ _, by rw [hsz]; omega, hge⟩
      · rename_i j g len _
        split at h
        · rename_i e' sz' cs hg
          cases hb : (Nat.beq cs.length g && Nat.beq e e' && Nat.beq sz' te.sz && Nat.ble (len * te.sz) g && Nat.ble ((len + n) * te.bytes) (2 ^ 47) && Nat.ble (len + n) (2 ^ 62)) with
          | false => rw [hb] at h; cases h
          | true =>
            rw [hb] at h
            simp only [cond_true] at h
            have hlive : X.M.live j g = true := by
              unfold Mem.live; rw [hg]
              simp only [Bool.and_eq_true] at hb
              exact hb.1.1.1.1.1
            simp only [Bool.and_eq_true] at hb
            obtain ⟨⟨⟨⟨⟨b1, b2⟩, b3⟩, b4⟩, b5⟩, b6⟩ := hb
            obtain rfl := Nat.eq_of_beq_eq_true b1
            obtain rfl := Nat.eq_of_beq_eq_true b2
            obtain rfl := Nat.eq_of_beq_eq_true b3
            have b4 := Nat.le_of_ble_eq_true b4
            have b5 := Nat.le_of_ble_eq_true b5
            have b6 := Nat.le_of_ble_eq_true b6
            obtain ⟨e2, sz2, fz2, cs2, b, cap, cur, f, g1, g2, g3, rfl, g5, g6, g7⟩ := hx.ref_live hlive
            rw [hg] at g1
            obtain ⟨rfl, rfl, rfl, rfl⟩ : e = e2 ∧ te.sz = sz2 ∧ false = fz2 ∧ cs = cs2 := by simpa using g1
            obtain ⟨⟨cur2, k1, k2, k3⟩, k4, _⟩ := R.cells j b _ _ _ _ hg g3
            rw [k1] at g5
            obtain ⟨rfl, rfl⟩ : cur2 = cur ∧ (0, 0) = f := by simpa using g5
            rw [Nat.zero_add] at g6
            have hone := hnv.one hcell
            have hroomrun : len + n ≤ cap → (Builtin.append_ #[t, u] ty #[.slice (some ⟨b, 0, none⟩) len cap, y]).run P X.w =
                .ok (.slice (some ⟨b, 0, none⟩) (len + n) cap) (X.w.setRow b (cur2.toList.take (len * te.sz) ++ news ++ cur2.toList.drop (len * te.sz + news.length)).toArray) := fun hr => by
              have hle : (len + n) * te.sz ≤ cap * te.sz := Nat.mul_le_mul_right _ hr
              rw [Nat.add_mul] at hle
              have hst := run_storeCells_at (P := P) b (len * te.sz) e news 0 cur2 X.w k1 (by rw [hnewl, hs]; omega) hone
              rw [app_room hd hi hz hsr hr]
              simp only [Addr.add_lit, Nat.zero_add, hs, Nat.add_zero] at hst ⊢
              rw [hst]; rfl
            have hsetsz : len + n ≤ cap → (cur2.toList.take (len * te.sz) ++ news ++ cur2.toList.drop (len * te.sz + news.length)).toArray.size = cur2.size := fun hr => by
              have hle : (len + n) * te.sz ≤ cap * te.sz := Nat.mul_le_mul_right _ hr
              rw [Nat.add_mul] at hle
              simp only [List.size_toArray, List.length_append, List.length_take, List.length_drop, Array.length_toList, hnewl, hs]
              omega
            have hnl2 : new.length = n * te.sz := hnl
            have hnews : news.length = n * te.sz := by rw [hnewl, hs]
            have hmul : (len + n) * te.sz = len * te.sz + n * te.sz := Nat.add_mul _ _ _
            cases hin : Nat.ble ((len + n) * te.sz) cs.length with
            | true =>
              rw [hin] at h
              cases h
              have hin := Nat.le_of_ble_eq_true hin
              have hr : len + n ≤ cap := Nat.le_of_mul_le_mul_right (by omega) hsz0
              have hlen : (splice cs (len * te.sz) new).length = cs.length := by simp [splice]; omega
              obtain ⟨R2, E2⟩ := X.put_ok R (cs' := splice cs (len * te.sz) new) (cur' := (cur2.toList.take (len * te.sz) ++ news ++ cur2.toList.drop (len * te.sz + news.length)).toArray)
                (w' := X.w.setRow b (cur2.toList.take (len * te.sz) ++ news ++ cur2.toList.drop (len * te.sz + news.length)).toArray) hg g3 k1 rfl rfl rfl (by simp)
                (setRow_heap X.w b cur2 _ e _ k1) (fun k hk => setRow_other X.w b k _ hk) (hsetsz hr) (by omega) (by rw [hsetsz hr]; omega) (by
                  rw [hlen]
                  have hsp := splice_ok (off := len * te.sz) k3 hnv
                  have e2 : ((cur2.toList.take (len * te.sz) ++ news ++ cur2.toList.drop (len * te.sz + news.length)).toArray.toList).take cs.length = (cur2.toList.take cs.length).take (len * te.sz) ++ news ++ (cur2.toList.take cs.length).drop (len * te.sz + news.length) := by
                    rw [hnews]
                    apply List.ext_getElem?
                    intro k
                    simp only [List.getElem?_take, List.getElem?_append, List.getElem?_drop, List.length_append, List.length_take, Array.length_toList, hnews]
                    repeat' split
                    all_goals first | rfl | (exfalso; omega) | (congr 1; omega)
                  rw [e2]; exact hsp) (by
                  rw [List.all_eq_true] at k4 hcell ⊢
                  intro z hz
                  simp only [splice, List.mem_append] at hz
                  rcases hz with (hz | hz) | hz
                  · exact k4 z (List.mem_of_mem_take hz)
                  · exact hcell z hz
                  · exact k4 z (List.mem_of_mem_drop hz))
              refine ⟨_, _, rfl, R2, E2, ?_, hroomrun hr⟩
              simp only [VR]
              refine .inr ⟨e, te.sz, false, _, b, cap, _, (0, 0), get_set_eq hg, hlen, g3, rfl, setRow_heap X.w b cur2 _ e _ k1, ?_, hr⟩
              rw [hsetsz hr]; omega
            | false =>
              rw [hin] at h
              cases h
              have hin : ¬ (len + n) * te.sz ≤ cs.length := fun e => by rw [Nat.ble_eq_true_of_le e] at hin; cases hin
              have hlen : (cs.take (len * te.sz) ++ new).length = (len + n) * te.sz := by simp; omega
              have hvn : VRs X (cs.take (len * te.sz) ++ new) (cur2.toList.take (len * te.sz) ++ news) := by
                have := (k3.take (len * te.sz)).append hnv
                rwa [List.take_take, Nat.min_eq_left b4] at this
              have hcn : (cs.take (len * te.sz) ++ new).all AV.cell = true := by
                rw [List.all_eq_true] at k4 hcell ⊢
                intro z hz
                rcases List.mem_append.1 hz with hz | hz
                · exact k4 z (List.mem_of_mem_take hz)
                · exact hcell z hz
              by_cases hr : len + n ≤ cap
              · have hle : (len + n) * te.sz ≤ cap * te.sz := Nat.mul_le_mul_right _ hr
                obtain ⟨R2, E2⟩ := X.put_ok R (cs' := cs.take (len * te.sz) ++ new) (cur' := (cur2.toList.take (len * te.sz) ++ news ++ cur2.toList.drop (len * te.sz + news.length)).toArray)
                  (w' := X.w.setRow b (cur2.toList.take (len * te.sz) ++ news ++ cur2.toList.drop (len * te.sz + news.length)).toArray) hg g3 k1 rfl rfl rfl (by simp)
                  (setRow_heap X.w b cur2 _ e _ k1) (fun k hk => setRow_other X.w b k _ hk) (hsetsz hr) (by omega) (by rw [hsetsz hr]; omega) (by
                    have e3 : (cur2.toList.take (len * te.sz) ++ news).length = (cs.take (len * te.sz) ++ new).length := hvn.len
                    rw [← e3, List.toList_toArray, List.take_left]
                    exact hvn) hcn
                refine ⟨_, _, rfl, R2, E2, ?_, hroomrun hr⟩
                simp only [VR]
                refine .inr ⟨e, te.sz, false, _, b, cap, _, (0, 0), get_set_eq hg, hlen, g3, rfl, setRow_heap X.w b cur2 _ e _ k1, ?_, hr⟩
                rw [hsetsz hr]; omega
              · have hrun := app_grow (w := X.w) (base := some ⟨b, 0, none⟩) (sLen := len) (sCap := cap) (old := (cur2.toList.drop 0).take (len * te.sz)) (ty := ty) hd hi hz hsr hr g7 (by rw [hby]; exact b5) b6
                  (by rw [hs]; exact firstCells_at X.w.drew k1 (by omega) _)
                have hge := grownCap_ge X.w (len + n) cap e
                obtain ⟨R1, E1⟩ := X.drew_ok R
                have hlel : len * te.sz ≤ cur2.size := by omega
                have hold : ((cur2.toList.drop 0).take (len * te.sz)).length = len * te.sz := by simp; omega
                have hcz : (((cur2.toList.drop 0).take (len * te.sz)).toArray ++ news.toArray ++ Builtin.zeroCells z.cells (grownCap X.w (len + n) cap e - (len + n)) : Array Value).size = grownCap X.w (len + n) cap e * te.sz := by
                  simp only [Array.size_append, List.size_toArray, size_zeroCells, hzc, hnews, hold, ← Nat.add_mul]
                  congr 1; omega
                have hle : (len + n) * te.sz ≤ grownCap X.w (len + n) cap e * te.sz := Nat.mul_le_mul_right _ hge
                obtain ⟨R2, E2⟩ := Cx.move_ok _ R1 (cs' := cs.take (len * te.sz) ++ new) (cur' := ((cur2.toList.drop 0).take (len * te.sz)).toArray ++ news.toArray ++ Builtin.zeroCells z.cells (grownCap X.w (len + n) cap e - (len + n))) hg g3 (by omega) (by rw [hcz]; omega) (by
                    have e3 : (cur2.toList.take (len * te.sz) ++ news).length = (cs.take (len * te.sz) ++ new).length := hvn.len
                    rw [← e3]
                    simp only [Array.toList_append, List.drop_zero]
                    rw [List.take_left]
                    exact E1.vrs R hvn) hcn
                refine ⟨_, _, rfl, R2, E1.trans E2 R, ?_, hrun⟩
                simp only [VR]
                exact .inr ⟨e, te.sz, false, _, X.w.heap.size, grownCap X.w (len + n) cap e, _, (0, 0), get_set_eq hg, hlen, by simp [Cx.moved], rfl, heap_alloc_new' _ _, by rw [hcz]; omega, hge⟩
        · cases h
      · cases h
end
end Go.Abs
