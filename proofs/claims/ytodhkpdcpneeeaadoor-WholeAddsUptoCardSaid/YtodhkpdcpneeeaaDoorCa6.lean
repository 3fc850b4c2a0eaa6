/- What the card rests on, part 6: words of the walk, the functions in Lean and that the code comes to them. No condition beyond those that each theorem names. -/
import Derived.Test.YtodhkpdcpneeeaaDoorCa5
namespace Go.Proofs.YtodhkpdcpneeeaaDoor.PurePAd
set_option linter.unusedVariables false
set_option linter.unusedSimpArgs false
open Go.RowKit Go.Proofs.YtodhkpdcpneeeaaDoorW.PrintWords Go.Proofs.YtodhkpdcpneeeaaDoorW.PrintLast Go.Proofs.YtodhkpdcpneeeaaDoorW.PrintMore Go.Proofs.YtodhkpdcpneeeaaDoor.PAd Go.Proofs.YtodhkpdcpneeeaaDoor Go.Proofs.YtodhkpdcpneeeaaDoor.Mine Big
theorem Make_num {v : Int} {l : List Int} (b : Bool) (hl : l.length < 9223372036854775807) (hd : Dig 65536 l) (hv : val 65536 l = v) {n : Int} (hn : n = if b then -v else v) : ∃ u r, Ev (fun k => tribunalref02_Make.f k b l) (u, r) ∧ Num 65536 n u r := by
  obtain ⟨r, h, h1, h2, h3⟩ := Make_ev b l hl hd
  exact ⟨_, r, h, Num.of_rep' (by decide) ⟨h1, h2, h3.trans hv⟩ b hn⟩
theorem rplus_num {n m : Int} {s t : Bool} {a b : List Int} (ha : Num 65536 n s a) (hb : Num 65536 m t b) (la : a.length ≤ 8388600) (lb : b.length ≤ 8388600) :
    ∃ u r, Ev (fun k => tribunalref02_Plus.f k s a t b) (u, r) ∧ Num 65536 (n + m) u r := by
  have e1 := ha.sign
  have e2 := hb.sign
  by_cases hst : s = t
  · obtain ⟨r0, ⟨K, hr⟩, h1, h2, h3⟩ := addD_ev a b la lb ha.rep.dig hb.rep.dig
    rw [ha.rep.val, hb.rep.val] at h2
    obtain ⟨u, r, ⟨K2, hr2⟩, hN⟩ := Make_num s (by omega) h1 h2 (n := n + m) (by subst hst; cases s <;> simp at e1 e2 ⊢ <;> omega)
    refine ⟨u, r, ⟨max K K2, fun k hk => ?_⟩, hN⟩
    have g : tribunalref02_addD.f k a b = some r0 := hr k (by omega)
    have g2 : tribunalref02_Make.f k s r0 = _ := hr2 k (by omega)
    show tribunalref02_Plus.f k s a t b = _
    rw [tribunalref02_Plus.f, if_pos (by rw [hst]; exact beq_self_eq_true t), g, Option.bind_some, g2, Option.bind_some]
  · obtain ⟨K1, h1⟩ := tribunalref02_cmpD_ev a b (by omega) (by omega) ha.rep.dig hb.rep.dig ha.rep.top hb.rep.top
    have hne : ¬ (s == t) = true := by intro h; exact hst (eq_of_beq h)
    by_cases hle : val 65536 b ≤ val 65536 a
    · obtain ⟨r0, ⟨K, hr⟩, hR⟩ := subD_ev a b (by omega) (len_of_le (by decide) ha.rep.dig hb.rep.dig hb.rep.top hle) hle ha.rep.dig hb.rep.dig
      have hlen : r0.length ≤ a.length := rep_len (by decide) hR (by have := val_lt (B := 65536) (by decide) ha.rep.dig; have := val_nonneg (B := 65536) (by decide) hb.rep.dig; omega)
      have hle' := hle
      rw [ha.rep.val, hb.rep.val] at hR hle'
      obtain ⟨u, r, ⟨K2, hr2⟩, hN⟩ := Make_num s (by omega) hR.dig hR.val (n := n + m) (by cases s <;> cases t <;> simp at hst e1 e2 ⊢ <;> omega)
      refine ⟨u, r, ⟨max K1 (max K K2), fun k hk => ?_⟩, hN⟩
      have g : tribunalref02_subD.f k a b = some r0 := hr k (by omega)
      have g1 : tribunalref02_cmpD.f k a b = _ := h1 k (by omega)
      have g2 : tribunalref02_Make.f k s r0 = _ := hr2 k (by omega)
      show tribunalref02_Plus.f k s a t b = _
      rw [tribunalref02_Plus.f, if_neg hne, g1, Option.bind_some, if_pos (sg_ge.2 (by omega)), g, Option.bind_some, g2, Option.bind_some]
    · have hle2 : val 65536 a ≤ val 65536 b := by omega
      obtain ⟨r0, ⟨K, hr⟩, hR⟩ := subD_ev b a (by omega) (len_of_le (by decide) hb.rep.dig ha.rep.dig ha.rep.top hle2) hle2 hb.rep.dig ha.rep.dig
      have hlen : r0.length ≤ b.length := rep_len (by decide) hR (by have := val_lt (B := 65536) (by decide) hb.rep.dig; have := val_nonneg (B := 65536) (by decide) ha.rep.dig; omega)
      have hle' := hle2
      rw [ha.rep.val, hb.rep.val] at hR hle'
      obtain ⟨u, r, ⟨K2, hr2⟩, hN⟩ := Make_num t (by omega) hR.dig hR.val (n := n + m) (by cases s <;> cases t <;> simp at hst e1 e2 ⊢ <;> omega)
      refine ⟨u, r, ⟨max K1 (max K K2), fun k hk => ?_⟩, hN⟩
      have g : tribunalref02_subD.f k b a = some r0 := hr k (by omega)
      have g1 : tribunalref02_cmpD.f k a b = _ := h1 k (by omega)
      have g2 : tribunalref02_Make.f k t r0 = _ := hr2 k (by omega)
      show tribunalref02_Plus.f k s a t b = _
      rw [tribunalref02_Plus.f, if_neg hne, g1, Option.bind_some, if_neg (fun x => hle (by have := sg_ge.1 x; omega)), g, Option.bind_some, g2, Option.bind_some]
theorem rminus_num {n : Int} {s : Bool} {a : List Int} (ha : Num 65536 n s a) (la : a.length ≤ 8388608) : ∃ u r, Ev (fun k => tribunalref02_Minus.f k s a) (u, r) ∧ Num 65536 (-n) u r := by
  have e1 := ha.sign
  obtain ⟨u, r, ⟨K, hr⟩, hN⟩ := Make_num (!s) (by omega) ha.rep.dig ha.rep.val (n := -n) (by cases s <;> simp at e1 ⊢ <;> omega)
  refine ⟨u, r, ⟨K, fun k hk => ?_⟩, hN⟩
  have g : tribunalref02_Make.f k (!s) a = _ := hr k hk
  show tribunalref02_Minus.f k s a = _
  rw [tribunalref02_Minus.f, g, Option.bind_some]
end Go.Proofs.YtodhkpdcpneeeaaDoor.PurePAd
namespace Go.Proofs.YtodhkpdcpneeeaaDoor.PurePAd
set_option linter.unusedVariables false
set_option linter.unusedSimpArgs false
open Go.RowKit Go.Proofs.YtodhkpdcpneeeaaDoorW.PrintWords Go.Proofs.YtodhkpdcpneeeaaDoorW.PrintLast Go.Proofs.YtodhkpdcpneeeaaDoorW.PrintMore Go.Proofs.YtodhkpdcpneeeaaDoor.PAd Go.Proofs.YtodhkpdcpneeeaaDoor Go.Proofs.YtodhkpdcpneeeaaDoor.Mine Big
theorem add_ev (s : Bool) (l : List Int) (hl : l.length ≤ 1048576) (hd : Dig 18446744073709551616 l) (t : Bool) (m : List Int) (hm : m.length ≤ 1048576) (hdm : Dig 18446744073709551616 m) :
    ∃ r, Ev (fun k => whole_Add.f k s l t m) r ∧ Ev (fun k => tribunalref02_Add.f k s l t m) r ∧ r.2.1.length ≤ 8388608 := by
  obtain ⟨n1, s1, a1, d1, ⟨K1, e1⟩, ⟨J1, f1⟩, N1, M1, l1, k1⟩ := arg_num s l hl hd
  obtain ⟨n2, s2, a2, d2, ⟨K2, e2⟩, ⟨J2, f2⟩, N2, M2, l2, k2⟩ := arg_num t m hm hdm
  obtain ⟨u, r, ⟨K3, e3⟩, N3⟩ := plus_num N1 N2 (by omega) (by omega)
  obtain ⟨v, q, ⟨J3, f3⟩, M3⟩ := rplus_num M1 M2 (by omega) (by omega)
  have hq := num_len (by decide) M1 M2 M3 (by omega) (show d1.length ≤ 4194304 by omega) (show d2.length ≤ 4194304 by omega)
  obtain ⟨z, hz, ⟨J4, f4⟩, hzl⟩ := told_same N3 M3 (by omega)
  refine ⟨z, ⟨max K1 (max K2 K3), fun k hk => ?_⟩, ⟨max J1 (max J2 (max J3 J4)), fun k hk => ?_⟩, hzl⟩
  · have g1 : whole_of.f k s l = _ := e1 k (by omega)
    have g2 : whole_of.f k t m = _ := e2 k (by omega)
    have g3 : whole_number_plus.f k a1 s1 a2 s2 = _ := e3 k (by omega)
    show whole_Add.f k s l t m = _
    rw [whole_Add.f, g1, Option.bind_some, g2, Option.bind_some, g3, Option.bind_some, hz, Option.bind_some]
  · have g1 : tribunalref02_From.f k s l = _ := f1 k (by omega)
    have g2 : tribunalref02_From.f k t m = _ := f2 k (by omega)
    have g3 : tribunalref02_Plus.f k s1 d1 s2 d2 = _ := f3 k (by omega)
    have g4 : tribunalref02_Out.f k v q = _ := f4 k (by omega)
    show tribunalref02_Add.f k s l t m = _
    rw [tribunalref02_Add.f, g1, Option.bind_some, g2, Option.bind_some, g3, Option.bind_some, g4, Option.bind_some]
theorem sub_ev (s : Bool) (l : List Int) (hl : l.length ≤ 1048576) (hd : Dig 18446744073709551616 l) (t : Bool) (m : List Int) (hm : m.length ≤ 1048576) (hdm : Dig 18446744073709551616 m) :
    ∃ r, Ev (fun k => whole_Sub.f k s l t m) r ∧ Ev (fun k => tribunalref02_Sub.f k s l t m) r ∧ r.2.1.length ≤ 8388608 := by
  obtain ⟨n1, s1, a1, d1, ⟨K1, e1⟩, ⟨J1, f1⟩, N1, M1, l1, k1⟩ := arg_num s l hl hd
  obtain ⟨n2, s2, a2, d2, ⟨K2, e2⟩, ⟨J2, f2⟩, N2, M2, l2, k2⟩ := arg_num t m hm hdm
  obtain ⟨u, r, ⟨K3, e3⟩, N3⟩ := minus_num N1 N2 (by omega) (by omega)
  obtain ⟨w, d3, ⟨J5, f5⟩, M5⟩ := rminus_num M2 (by omega)
  have h3 : d3.length ≤ 4194304 := by
    refine rep_len (by decide) M5.rep ?_
    have h1 := M2.rep.lt (by decide)
    have h2 := pow_le_pow (B := 65536) (by decide) (show d2.length ≤ 4194304 by omega)
    have h4 : ((-n2).natAbs : Int) = n2.natAbs := by omega
    rw [h4]
    exact Int.lt_of_lt_of_le h1 h2
  obtain ⟨v, q, ⟨J3, f3⟩, M3⟩ := rplus_num M1 M5 (by omega) (by omega)
  have hq := num_len (by decide) M1 M5 M3 (by omega) (show d1.length ≤ 4194304 by omega) h3
  rw [← Int.sub_eq_add_neg] at M3
  obtain ⟨z, hz, ⟨J4, f4⟩, hzl⟩ := told_same N3 M3 (by omega)
  refine ⟨z, ⟨max K1 (max K2 K3), fun k hk => ?_⟩, ⟨max J1 (max J2 (max J3 (max J4 J5))), fun k hk => ?_⟩, hzl⟩
  · have g1 : whole_of.f k s l = _ := e1 k (by omega)
    have g2 : whole_of.f k t m = _ := e2 k (by omega)
    have g3 : whole_number_minus.f k a1 s1 a2 s2 = _ := e3 k (by omega)
    show whole_Sub.f k s l t m = _
    rw [whole_Sub.f, g1, Option.bind_some, g2, Option.bind_some, g3, Option.bind_some, hz, Option.bind_some]
  · have g1 : tribunalref02_From.f k s l = _ := f1 k (by omega)
    have g2 : tribunalref02_From.f k t m = _ := f2 k (by omega)
    have g5 : tribunalref02_Minus.f k s2 d2 = _ := f5 k (by omega)
    have g3 : tribunalref02_Plus.f k s1 d1 w d3 = _ := f3 k (by omega)
    have g4 : tribunalref02_Out.f k v q = _ := f4 k (by omega)
    show tribunalref02_Sub.f k s l t m = _
    rw [tribunalref02_Sub.f, g1, Option.bind_some, g2, Option.bind_some, g5, Option.bind_some, g3, Option.bind_some, g4, Option.bind_some]
end Go.Proofs.YtodhkpdcpneeeaaDoor.PurePAd
namespace Go.Proofs.YtodhkpdcpneeeaaDoor.Pure
open Go.RowKit Go.Proofs.YtodhkpdcpneeeaaDoorW.PrintWords Go.Proofs.YtodhkpdcpneeeaaDoorW.PrintLast Go.Proofs.YtodhkpdcpneeeaaDoorW.PrintMore Go.Proofs.YtodhkpdcpneeeaaDoor.PAd Go.Proofs.YtodhkpdcpneeeaaDoor Go.Proofs.YtodhkpdcpneeeaaDoor.Mine Big PurePAd
theorem wholeAdds_pure (a : Bool) (x : List Int) (hx : x.length ≤ 1048576) (wx : ∀ z ∈ x, (Lit.int .u64 z).wf = true) (b : Bool) (y : List Int) (hy : y.length ≤ 1048576) (wy : ∀ z ∈ y, (Lit.int .u64 z).wf = true) : ∃ k, PAd.tribunallaw02_WholeAdds.f k a x b y = some true := by
  obtain ⟨⟨c, l, e⟩, ⟨K1, e1⟩, ⟨K2, e2⟩, hl⟩ := add_ev a x hx (dig_of_wf wx) b y hy (dig_of_wf wy)
  obtain ⟨⟨d, m, i⟩, ⟨K3, e3⟩, ⟨K4, e4⟩, hm⟩ := sub_ev a x hx (dig_of_wf wx) b y hy (dig_of_wf wy)
  obtain ⟨K5, e5⟩ := Same_ev c l hl
  obtain ⟨K6, e6⟩ := Same_ev d m hm
  obtain ⟨K7, e7⟩ := awake_ev
  obtain ⟨k, h1, h2, h3, h4, h5, h6, h7⟩ : ∃ k, K1 ≤ k ∧ K2 ≤ k ∧ K3 ≤ k ∧ K4 ≤ k ∧ K5 ≤ k ∧ K6 ≤ k ∧ K7 ≤ k := ⟨K1 + K2 + K3 + K4 + K5 + K6 + K7, by omega, by omega, by omega, by omega, by omega, by omega, by omega⟩
  refine ⟨k, ?_⟩
  have g1 : whole_Add.f k a x b y = _ := e1 k h1
  have g2 : tribunalref02_Add.f k a x b y = _ := e2 k h2
  have g3 : whole_Sub.f k a x b y = _ := e3 k h3
  have g4 : tribunalref02_Sub.f k a x b y = _ := e4 k h4
  have g5 : tribunalref02_Same.f k c l c l = _ := e5 k h5
  have g6 : tribunalref02_Same.f k d m d m = _ := e6 k h6
  have g7 : tribunallaw02_awake.f k = _ := e7 k h7
  rw [tribunallaw02_WholeAdds.f, g1, Option.bind_some, g2, Option.bind_some, g3, Option.bind_some, g4, Option.bind_some, g5, Option.bind_some, if_pos rfl, if_pos rfl, g6, Option.bind_some, if_pos rfl, if_pos rfl, g7, Option.bind_some]
end Go.Proofs.YtodhkpdcpneeeaaDoor.Pure
