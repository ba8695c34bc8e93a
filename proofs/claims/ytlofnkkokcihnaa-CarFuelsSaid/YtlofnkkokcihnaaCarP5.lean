/-
  The law of the least fuel holds for every input.
-/
import Derived.Test.YtlofnkkokcihnaaCarPI
import Derived.Test.YtlofnkkokcihnaaCarTree5
import Derived.Test.YtlofnkkokcihnaaCarK
import Derived.Test.YtlofnkkokcihnaaCarFuelsOver
namespace Go.Proofs.Ytlofnkkokcihnaa
open Go.Lite

theorem sameL_refl (a : List (List D)) : sameL a a = true := by
  unfold sameL
  rw [Bool.and_eq_true, allFrom_iff]
  exact ⟨decide_eq_true rfl, fun j _ _ => by unfold sameAt; exact beq_self_eq_true _⟩
theorem law5 (a b c d : D) : (fnT C tab5 5 s5 [a, b, c, d]).run = some [D.b true] := by
  refine (congrArg T.run (t5 a b c d)).trans ?_
  have hb : big = 4611686018427387904 := rfl
  refine go_if (fun _ => rfl) fun h60 => go_yes (by omega) ?_
  cases ht : tankOk a.I b.I c.I d.L with
  | false => rfl
  | true =>
    have hp : tankP a.I b.I c.I d.L := ht
    have hlen := (tank_of hp).2.2.2.1
    have e1 : (outs d.L b.I c.I).length = d.L.length := len_tabI _ _
    have e2 : (outs d.L b.I c.I).take d.L.length = outs d.L b.I c.I := take_tabI
    simp only [Int.toNat_natCast, e1, e2]
    rcases search_of hp with ⟨h1, h2⟩ | ⟨h1, h2, h3⟩
    · rw [h1, h2]
      refine go_true rfl (go_false rfl (go_notT rfl (go_yes hp rfl)))
    · rw [h1, h2, h3]
      simp only [e1, e2, sameL_refl]
      cases hf : fuelOk a.I b.I c.I d.L with
      | false => exact go_true rfl (go_false rfl (go_notT rfl (go_yes hp rfl)))
      | true => exact go_true rfl (go_true rfl (go_notT rfl (go_yes hp (go_true rfl (go_notT rfl (go_true rfl (go_dec (by omega) (go_dec (by omega) (go_yes (by omega) rfl)))))))))
set_option maxRecDepth 100000 in
theorem carFuels_law : carFuelsLaw := fun xs hx =>
  law_true hC (sp := sp5) (lp := lp5) (n := 12) ⟨ok16, ok25 6, ok26 10, ok27 9, ok24 11, trivial⟩ (by kernel_rfl) [] (by kernel_rfl) rfl (fun k hk => by cases hk)
    (ts := [3, 3, 3, 44]) (ks := s5.args) (by kernel_rfl) (of_decide_eq_true (by kernel_rfl)) (m := 4) (by kernel_rfl) (fun ds hl => by
      match ds, hl with
      | [a, b, c, d], _ => exact law5 a b c d) 12 xs hx
theorem car_fuels : Rows.CarFuelsSaid := carFuels_over carFuels_law
end Go.Proofs.Ytlofnkkokcihnaa
