/-
  The law of grips.
-/
import Derived.Test.YtlofnkkokcihnaaCarPC
import Derived.Test.YtlofnkkokcihnaaCarTree3
import Derived.Test.YtlofnkkokcihnaaCarK
import Derived.Test.YtlofnkkokcihnaaCarGripsOver
namespace Go.Proofs.Ytlofnkkokcihnaa
open Go.Lite

theorem gripV_range {g d h : Int} (hg : 0 ≤ g ∧ g ≤ 1000) (hd : 0 ≤ d ∧ d ≤ 1000) (hh : 0 ≤ h ∧ h ≤ 1000000) : 0 ≤ gripV g d h ∧ gripV g d h ≤ 1000 := by
  unfold gripV
  have h1 : 0 ≤ d * h := Int.mul_nonneg hd.1 hh.1
  have h2 : d * h ≤ 1000 * 1000000 := Int.mul_le_mul hd.2 hh.2 hh.1 (by omega)
  have := @Lite.tdiv_between g (d * h) 1000000000 h1 (by omega) (by omega)
  rw [Int.mul_assoc]
  generalize (g * (d * h)).tdiv 1000000000 = x at *
  omega
theorem gripV_anti {g d h i : Int} (hg : 0 ≤ g) (hd : 0 ≤ d) (hh : 0 ≤ h) (hi : 0 ≤ i) : gripV g d (h + i) ≤ gripV g d h := by
  unfold gripV
  have h0 : 0 ≤ g * d := Int.mul_nonneg hg hd
  have h1 : 0 ≤ g * d * h := Int.mul_nonneg h0 hh
  have h2 : 0 ≤ g * d * i := Int.mul_nonneg h0 hi
  rw [Int.mul_add, Int.tdiv_eq_ediv_of_nonneg h1, Int.tdiv_eq_ediv_of_nonneg (by omega)]
  omega
theorem small_of {a b c : List (List D)} (h : shortOk a b c = true) : smallRows a ∧ smallRows b ∧ c.length < big ∧ a.length < big ∧ b.length < big := by
  have hb : big = 4611686018427387904 := rfl
  simp only [shortOk, Bool.and_eq_true, decide_eq_true_eq, allFrom_iff] at h
  refine ⟨⟨by omega, fun j hj => ?_⟩, ⟨by omega, fun j hj => ?_⟩, by omega, by omega, by omega⟩
  · have := h.1.2 j (by omega) (by omega); omega
  · have := h.2 j (by omega) (by omega); omega
theorem law3 (a b c d e f g h i : D) : (fnT C tab3 3 s3 [a, b, c, d, e, f, g, h, i]).run = some [D.b true] := by
  refine (congrArg T.run (t3 a b c d e f g h i)).trans ?_
  by_cases hsh : shortOk a.L b.L c.L = true
  · obtain ⟨k1, k2, k3, k4, k5⟩ := small_of hsh
    have c1 := yes_true (p := smallRows a.L ∧ smallRows b.L ∧ c.L.length < big) ⟨k1, k2, k3⟩
    have c2 := yes_true (p := a.L.length < big ∧ b.L.length < big ∧ c.L.length < big) ⟨k4, k5, k3⟩
    by_cases p1 : compoundOk a.L b.L c.L d.I = true
    · have hs : within e.I 0 (a.L.length - 1) = true → surfOk a.L b.L e.I g.B ∧ 0 ≤ d.I ∧ d.I ≤ 1000 := fun h2 => surf_of (w := g.B) p1 h2
      have hgr : surfOk a.L b.L e.I g.B → 0 ≤ d.I ∧ d.I ≤ 1000 → ∀ w, 0 ≤ w ∧ w ≤ 1000000 → 0 ≤ gripC a.L b.L d.I e.I f.I g.B w ∧ gripC a.L b.L d.I e.I f.I g.B w ≤ 1000 := fun h1 h2 w hw => gripV_range (freshV_range h1.2.2.2) h2 hw
      have han : surfOk a.L b.L e.I g.B → 0 ≤ d.I → ∀ x y, 0 ≤ x → 0 ≤ y → gripC a.L b.L d.I e.I f.I g.B (x + y) ≤ gripC a.L b.L d.I e.I f.I g.B x := fun h1 h2 x y hx hy => gripV_anti (freshV_range h1.2.2.2).1 h2 hx hy
      have w1 : 0 ≤ h.I ∧ h.I ≤ 1000000 → IntKind.i64.wrap (1000000 - h.I) = 1000000 - h.I := fun hh => wrap_id (by omega) (by omega)
      have w2 : 0 ≤ h.I ∧ h.I ≤ 1000000 → 0 ≤ i.I ∧ i.I ≤ 1000000 - h.I → IntKind.i64.wrap (h.I + i.I) = h.I + i.I := fun hh hi => wrap_id (by omega) (by omega)
      simp only [run_ite, run_need, run_leaf, c1, c2, p1, hsh, yes_iff, within] at hs ⊢
      by_cases q : (0 ≤ e.I ∧ e.I ≤ a.L.length - 1) ∧ (-40 ≤ f.I ∧ f.I ≤ 80) ∧ (0 ≤ h.I ∧ h.I ≤ 1000000)
      · obtain ⟨q1, q2, q3⟩ := q
        obtain ⟨s1, s2⟩ := hs (by simpa using q1)
        have r1 := hgr s1 s2 h.I q3
        by_cases r2 : 0 ≤ i.I ∧ i.I ≤ 1000000 - h.I
        · have r3 := han s1 s2.1 h.I i.I q3.1 r2.1
          rw [w1 q3, w2 q3 r2]
          generalize gripC a.L b.L d.I e.I f.I g.B h.I = G1 at *
          generalize gripC a.L b.L d.I e.I f.I g.B (h.I + i.I) = G2 at *
          grind
        · rw [w1 q3]
          generalize gripC a.L b.L d.I e.I f.I g.B h.I = G1 at *
          grind
      · clear hs hgr han w1 w2
        grind
    · simp only [run_ite, run_need, run_leaf, c1, c2, p1, hsh]
      simp
  · simp [run_ite, run_leaf, hsh]
set_option maxRecDepth 100000 in
theorem carGrips_law : carGripsLaw := fun xs hx =>
  law_true hC (sp := sp3) (lp := lp3) (n := 12) ⟨ok15 11, ok16, ok17 5, ok18 9, ok19 9, trivial⟩ (by kernel_rfl) [] (by kernel_rfl) rfl (fun k hk => by cases hk)
    (ts := [25, 3, 3, 4, 3, 3]) (ks := s3.args) (by kernel_rfl) (of_decide_eq_true (by kernel_rfl)) (m := 9) (by kernel_rfl) (fun ds hl => by
      match ds, hl with
      | [a, b, c, d, e, f, g, h, i], _ => exact law3 a b c d e f g h i) 12 xs hx
theorem car_grips : Rows.CarGripsSaid := carGrips_over carGrips_law
end Go.Proofs.Ytlofnkkokcihnaa
