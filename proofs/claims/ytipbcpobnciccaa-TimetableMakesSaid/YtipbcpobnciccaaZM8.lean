/-
  The statement of TimP13 holds for every input; what it rests on stands in the parts before.
-/
import Derived.Test.YtipbcpobnciccaaZM7
import Derived.Test.YtipbcpobnciccaaRows
namespace Go.Proofs.Ytipbcpobnciccaa
open Go.Lite Go.ChangeShapes Go.WideShapes Go.ChangeAt Go.RowKit
theorem kids : Kids Try.prog (· < Try.prog.types.size) := kids_rows (by kernel_rfl) (by kernel_rfl)
theorem full : ∀ t e, t < Try.prog.types.size → Try.prog.underlying t = some (.slice e) → 0 < Try.prog.cellsOf e := slices_full_of Try.prog (by kernel_rfl)
end Go.Proofs.Ytipbcpobnciccaa
namespace Go.Proofs.Ytipbcpobnciccaa
open Go.Lite
set_option maxRecDepth 100000
theorem prod_le {w : List (List D)} (h : ∀ j, hoursN w j ≤ 10) : ∀ k, prodF w k ≤ 10 ^ k
  | 0 => Nat.le_refl _
  | k + 1 => by
    have a := prod_le h k
    have b := h k
    simp only [prodF, Nat.pow_succ]
    exact Nat.mul_le_mul a (by omega)
theorem few_small {c f : Int} {w : List (List D)} (hs : smallP w = true) (hp : planB c f w = true) : fewC w := by
  unfold smallP at hs
  rw [Bool.and_eq_true, decide_eq_true_eq] at hs
  have h : ∀ j, hoursN w j ≤ 10 := fun j => by
    by_cases hj : j < w.length
    · have := (wayC_of (way_of hp hj).1).2.2.2.2.2.2
      unfold hoursN
      omega
    · unfold hoursN
      rw [List.getD_eq_getElem?_getD, List.getElem?_eq_none (by omega)]
      show ((([] : List (List D)).length : Nat) : Int) ≤ 10
      decide
  unfold fewC
  exact Nat.le_trans (prod_le h _) (Nat.le_trans (Nat.pow_le_pow_right (by decide) hs.1) (by decide))
section
variable {c f : Int} {w : List (List D)}
theorem found_ok (h : (foundC c f w).1 = 0) : carOK w (foundC c f w).2 ∧ duesOk c f w (foundC c f w).2 = true := by
  have hcs := make_ok (c := c) (f := f) (w := w) triesN (ch := firstC w) first_ok
  have e : makeF c f w triesN (firstC w) = foundC c f w := rfl
  rw [e] at hcs
  rcases hcs with h0 | h5 | h9
  · exact h0.2
  · omega
  · omega
theorem found_fnd (hp : planB c f w = true) {ch : List (List D)} (hc : carOK w ch) (hd : duesOk c f w ch = true) : fndT c f w (rowP c f w ch) (clR c f w ch) (opR c f w ch) ch 1 ((w.length + 1 : Nat) : Int) w.length w.length w.length :=
  ⟨hp, hc, hd, rfl, rfl, rfl, rfl, by omega, rfl, rfl, rfl⟩
theorem found_lent (hp : planB c f w = true) {ch : List (List D)} (hc : carOK w ch) (hd : duesOk c f w ch = true) : (rowP c f w ch).length = w.length + 2 ∧ (clR c f w ch).length = w.length ∧ (opR c f w ch).length = w.length ∧ ch.length = w.length ∧
    ((rowP c f w ch).drop 1).take (w.length + 1) = dueL c f w ch ∧ (clR c f w ch).take w.length = clR c f w ch ∧ (opR c f w ch).take w.length = opR c f w ch ∧ ch.take w.length = ch ∧ (dueL c f w ch).length = w.length + 1 := by
  obtain ⟨l1, l2, l3, l4, hdr, l5, -⟩ := fnd_of (found_fnd hp hc hd)
  refine ⟨l1, l2, l3, l4, ?_, List.take_of_length_le (by omega), List.take_of_length_le (by omega), List.take_of_length_le (by omega), l5⟩
  rw [hdr]
  exact List.take_of_length_le (by omega)
end
end Go.Proofs.Ytipbcpobnciccaa
namespace Go.Proofs.Ytipbcpobnciccaa
open Go.Lite
set_option linter.unusedVariables false
set_option maxRecDepth 100000
theorem t72 (a b c d e : D) : fnT C tab72 72 s72 [a, b, c, d, e] =
  T.ite (List.isEmpty e.L) (T.need (decide ((0 : Int) ≤ (c.L.length : Int) ∧ (c.L.length : Int) = (c.L.length : Int) ∧ (c.L.length : Int) ≤ (2 : Int) ^ 40 ∧ (↑Try.prog.types[3].bytes : Int) * (c.L.length : Int) ≤ (2 : Int) ^ 46)) (T.need (decide ((0 : Int) ≤ (c.L.length : Int) ∧ (c.L.length : Int) = (c.L.length : Int) ∧ (c.L.length : Int) ≤ (2 : Int) ^ 40 ∧ (↑Try.prog.types[3].bytes : Int) * (c.L.length : Int) ≤ (2 : Int) ^ 46)) (T.ite (List.isEmpty d.L) T.fail (T.need (decide (d.L.length ≤ 2 ^ 62 ∧ d.L.length * Try.prog.types[3].bytes ≤ 2 ^ 47)) T.fail)))) (T.need (decide (e.L.length ≤ 2 ^ 62 ∧ e.L.length * Try.prog.types[3].bytes ≤ 2 ^ 47)) (T.need (decide ((0 : Int) ≤ (c.L.length : Int) ∧ (c.L.length : Int) = (c.L.length : Int) ∧ (c.L.length : Int) ≤ (2 : Int) ^ 40 ∧ (↑Try.prog.types[3].bytes : Int) * (c.L.length : Int) ≤ (2 : Int) ^ 46)) (T.need (decide ((0 : Int) ≤ (c.L.length : Int) ∧ (c.L.length : Int) = (c.L.length : Int) ∧ (c.L.length : Int) ≤ (2 : Int) ^ 40 ∧ (↑Try.prog.types[3].bytes : Int) * (c.L.length : Int) ≤ (2 : Int) ^ 46)) (T.ite (List.isEmpty d.L) (T.need (decide ((0 : Int) ≤ (0 : Int) ∧ (0 : Int) < (e.L.length : Int))) (T.need (decide (Int.toNat (0 : Int) < e.L.length)) (T.need (decide ((0 : Int) ≤ (0 : Int) ∧ (0 : Int) < (e.L.length : Int))) (T.need (decide (Int.toNat (0 : Int) < e.L.length)) T.fail)))) (T.need (decide (d.L.length ≤ 2 ^ 62 ∧ d.L.length * Try.prog.types[3].bytes ≤ 2 ^ 47)) (T.need (decide ((0 : Int) ≤ (0 : Int) ∧ (0 : Int) < (e.L.length : Int))) (T.need (decide (Int.toNat (0 : Int) < e.L.length)) (T.need (decide ((0 : Int) ≤ (0 : Int) ∧ (0 : Int) < (e.L.length : Int))) (T.need (decide (Int.toNat (0 : Int) < e.L.length)) (T.need (yes (tabOK a.I b.I c.L d.L ∧ (c.L.length : Int) = (c.L.length : Int) ∧ (e.L.length : Int) = (c.L.length : Int) + (1 : Int) ∧ dueOK a.I b.I c.L d.L (List.set e.L (Int.toNat (0 : Int)) (updC (List.getD e.L (Int.toNat (0 : Int)) []) [D.i (maxI (D.I (List.getD (List.getD e.L (Int.toNat (0 : Int)) []) 0 default)) b.I)] 0 0 (List.length [K.int IntKind.i64]))) ∧ (false = true → List.set e.L (Int.toNat (0 : Int)) (updC (List.getD e.L (Int.toNat (0 : Int)) []) [D.i (maxI (D.I (List.getD (List.getD e.L (Int.toNat (0 : Int)) []) 0 default)) b.I)] 0 0 (List.length [K.int IntKind.i64])) = dueL a.I b.I c.L d.L))) (T.need (yes (planB a.I b.I c.L = true ∧ (c.L.length : Int) = (c.L.length : Int) ∧ ((0 : Int) ≤ (0 : Int) ∧ (0 : Int) ≤ (c.L.length : Int)) ∧ (↑(Int.toNat (↑(Int.toNat (e.L.length : Int)) : Int)) : Int) = (c.L.length : Int) + (1 : Int) ∧ (↑(Int.toNat (↑(Int.toNat (↑(List.length (List.replicate (Int.toNat (c.L.length : Int)) [D.i 0])) : Int)) : Int)) : Int) = (c.L.length : Int) ∧ (↑(Int.toNat (↑(Int.toNat (↑(List.length (List.replicate (Int.toNat (c.L.length : Int)) [D.i 0])) : Int)) : Int)) : Int) = (c.L.length : Int) ∧ List.length (dueL a.I b.I c.L d.L) = c.L.length + 1 ∧ (∀ (j : Nat), (0 : Int) ≤ rg (dueL a.I b.I c.L d.L) j ∧ rg (dueL a.I b.I c.L d.L) j ≤ (2000000000 : Int)) ∧ List.replicate (Int.toNat (c.L.length : Int)) [D.i 0] = rowF (clG c.L (rg (dueL a.I b.I c.L d.L))) 0 (Int.toNat (0 : Int)) ++ zerR (c.L.length - Int.toNat (0 : Int)) ∧ List.replicate (Int.toNat (c.L.length : Int)) [D.i 0] = rowF (opG a.I c.L (rg (dueL a.I b.I c.L d.L))) 0 (Int.toNat (0 : Int)) ++ zerR (c.L.length - Int.toNat (0 : Int)))) (T.need (decide (Int.toNat (↑(Int.toNat (↑(Int.toNat (↑(Int.toNat (e.L.length : Int)) : Int)) : Int)) : Int) ≤ List.length (dueL a.I b.I c.L d.L))) (T.need (decide (Int.toNat (↑(Int.toNat (↑(Int.toNat (↑(Int.toNat (↑(List.length (List.replicate (Int.toNat (c.L.length : Int)) [D.i 0])) : Int)) : Int)) : Int)) : Int) ≤ List.length (rowF (clG c.L (rg (dueL a.I b.I c.L d.L))) 0 c.L.length))) (T.need (decide (Int.toNat (↑(Int.toNat (↑(Int.toNat (↑(Int.toNat (↑(List.length (List.replicate (Int.toNat (c.L.length : Int)) [D.i 0])) : Int)) : Int)) : Int)) : Int) ≤ List.length (rowF (opG a.I c.L (rg (dueL a.I b.I c.L d.L))) 0 c.L.length))) (T.need (decide (Int.toNat (↑(Int.toNat (↑(Int.toNat (↑(Int.toNat (d.L.length : Int)) : Int)) : Int)) : Int) ≤ d.L.length)) (T.need (yes (planB a.I b.I c.L = true ∧ List.length (List.take (Int.toNat (↑(Int.toNat (↑(Int.toNat (↑(Int.toNat (e.L.length : Int)) : Int)) : Int)) : Int)) (dueL a.I b.I c.L d.L)) < big ∧ List.length (List.take (Int.toNat (↑(Int.toNat (↑(Int.toNat (↑(Int.toNat (↑(List.length (List.replicate (Int.toNat (c.L.length : Int)) [D.i 0])) : Int)) : Int)) : Int)) : Int)) (rowF (clG c.L (rg (dueL a.I b.I c.L d.L))) 0 c.L.length)) < big ∧ List.length (List.take (Int.toNat (↑(Int.toNat (↑(Int.toNat (↑(Int.toNat (↑(List.length (List.replicate (Int.toNat (c.L.length : Int)) [D.i 0])) : Int)) : Int)) : Int)) : Int)) (rowF (opG a.I c.L (rg (dueL a.I b.I c.L d.L))) 0 c.L.length)) < big ∧ List.length (List.take (Int.toNat (↑(Int.toNat (↑(Int.toNat (↑(Int.toNat (d.L.length : Int)) : Int)) : Int)) : Int)) d.L) < big)) (T.leaf [D.i (↑(Int.toNat (↑(Int.toNat (↑(Int.toNat (↑(Int.toNat (e.L.length : Int)) : Int)) : Int)) : Int)) : Int), D.i (↑(Int.toNat (↑(Int.toNat (↑(Int.toNat (↑(Int.toNat (↑(List.length (List.replicate (Int.toNat (c.L.length : Int)) [D.i 0])) : Int)) : Int)) : Int)) : Int)) : Int), D.i (↑(Int.toNat (↑(Int.toNat (↑(Int.toNat (↑(Int.toNat (↑(List.length (List.replicate (Int.toNat (c.L.length : Int)) [D.i 0])) : Int)) : Int)) : Int)) : Int)) : Int), D.i (↑(Int.toNat (↑(Int.toNat (↑(Int.toNat (↑(Int.toNat (d.L.length : Int)) : Int)) : Int)) : Int)) : Int), D.b (fitsR a.I b.I c.L (List.take (Int.toNat (↑(Int.toNat (↑(Int.toNat (↑(Int.toNat (e.L.length : Int)) : Int)) : Int)) : Int)) (dueL a.I b.I c.L d.L)) (List.take (Int.toNat (↑(Int.toNat (↑(Int.toNat (↑(Int.toNat (↑(List.length (List.replicate (Int.toNat (c.L.length : Int)) [D.i 0])) : Int)) : Int)) : Int)) : Int)) (rowF (clG c.L (rg (dueL a.I b.I c.L d.L))) 0 c.L.length)) (List.take (Int.toNat (↑(Int.toNat (↑(Int.toNat (↑(Int.toNat (↑(List.length (List.replicate (Int.toNat (c.L.length : Int)) [D.i 0])) : Int)) : Int)) : Int)) : Int)) (rowF (opG a.I c.L (rg (dueL a.I b.I c.L d.L))) 0 c.L.length)) (List.take (Int.toNat (↑(Int.toNat (↑(Int.toNat (↑(Int.toNat (d.L.length : Int)) : Int)) : Int)) : Int)) d.L)), D.l (dueL a.I b.I c.L d.L), D.l (rowF (clG c.L (rg (dueL a.I b.I c.L d.L))) 0 c.L.length), D.l (rowF (opG a.I c.L (rg (dueL a.I b.I c.L d.L))) 0 c.L.length), D.l d.L]))))))))))))))))) := by kernel_rfl
theorem t72_5 (a b c d e f g h i j k l m n : D) : roundT C tab72 72 (loopOf C.P 72 5) l72_5 [a, b, c, d, e, f, g, h, i, j, k, l, m, n] =
  T.ite (!c.B) (T.need (yes (tabOK d.I e.I f.L a.L ∧ b.I = (f.L.length : Int) ∧ (g.I.toNat : Int) = (f.L.length : Int) + (1 : Int) ∧ dueOK d.I e.I f.L a.L k.L ∧ (0 : Int) ≤ (0 : Int) ∧ (0 : Int) ≤ b.I + (1 : Int))) (T.leaf (Rd.again [D.l a.L, D.i b.I, D.b (sweepF d.I f.L a.L (Int.toNat (0 : Int)) (f.L.length + 1 - Int.toNat (0 : Int)) (k.L, true)).snd, D.i d.I, D.i e.I, D.l f.L, D.i (↑(Int.toNat (↑(Int.toNat (g.I.toNat : Int)) : Int)) : Int), D.i (↑(Int.toNat (↑(Int.toNat (h.I.toNat : Int)) : Int)) : Int), D.i (↑(Int.toNat (↑(Int.toNat (i.I.toNat : Int)) : Int)) : Int), D.i (↑(Int.toNat (↑(Int.toNat (j.I.toNat : Int)) : Int)) : Int), D.l (sweepF d.I f.L a.L (Int.toNat (0 : Int)) (f.L.length + 1 - Int.toNat (0 : Int)) (k.L, true)).fst, D.l l.L, D.l m.L, D.l n.L]))) (T.leaf (Rd.out (Ex.exit 0) [D.i b.I, D.i d.I, D.i e.I, D.l f.L, D.i (g.I.toNat : Int), D.i (h.I.toNat : Int), D.i (i.I.toNat : Int), D.i (j.I.toNat : Int), D.l k.L, D.l l.L, D.l m.L, D.l n.L])) := by kernel_rfl
theorem t72_32 (a b c d e f g h i j k l m : D) : roundT C tab72 72 (loopOf C.P 72 32) l72_32 [a, b, c, d, e, f, g, h, i, j, k, l, m] =
  T.ite (decide (b.I < a.I)) (T.need (decide ((0 : Int) ≤ b.I ∧ b.I < (f.I.toNat : Int))) (T.need (decide (b.I.toNat < j.L.length)) (T.need (decide ((0 : Int) ≤ b.I ∧ b.I < (e.L.length : Int))) (T.need (decide ((0 : Int) ≤ b.I ∧ b.I < (g.I.toNat : Int))) (T.need (decide (b.I.toNat < k.L.length)) (T.need (decide ((0 : Int) ≤ b.I ∧ b.I < (f.I.toNat : Int))) (T.need (decide (b.I.toNat < j.L.length)) (T.need (yes (planB c.I d.I e.L = true ∧ (0 : Int) ≤ b.I ∧ b.I < (e.L.length : Int))) (T.need (decide ((0 : Int) ≤ b.I ∧ b.I < (e.L.length : Int))) (T.need (decide ((0 : Int) ≤ b.I ∧ b.I < (e.L.length : Int))) (T.need (decide ((0 : Int) ≤ b.I ∧ b.I < (h.I.toNat : Int))) (T.need (decide (b.I.toNat < l.L.length)) (T.leaf (Rd.again [D.i a.I, D.i (IntKind.wrap IntKind.i64 (b.I + (1 : Int))), D.i c.I, D.i d.I, D.l e.L, D.i (f.I.toNat : Int), D.i (g.I.toNat : Int), D.i (h.I.toNat : Int), D.i (i.I.toNat : Int), D.l j.L, D.l (List.set k.L b.I.toNat (updC (List.getD k.L b.I.toNat []) [D.i (IntKind.wrap IntKind.i64 (D.I (List.getD (List.getD j.L b.I.toNat []) 0 default) - D.I (List.getD (List.getD e.L b.I.toNat []) (0 + 1) default)))] 0 0 (List.length [K.int IntKind.i64]))), D.l (List.set l.L b.I.toNat (updC (List.getD l.L b.I.toNat []) [D.i (IntKind.wrap IntKind.i64 (IntKind.wrap IntKind.i64 (IntKind.wrap IntKind.i64 (D.I (List.getD (List.getD j.L b.I.toNat []) 0 default) + spanF c.I (List.getD e.L b.I.toNat [])) + D.I (List.getD (List.getD e.L b.I.toNat []) 0 default)) + D.I (List.getD (List.getD e.L b.I.toNat []) (0 + 1 + 1) default)))] 0 0 (List.length [K.int IntKind.i64]))), D.l m.L])))))))))))))) (T.leaf (Rd.out (Ex.exit 4) [D.i c.I, D.i d.I, D.l e.L, D.i (f.I.toNat : Int), D.i (g.I.toNat : Int), D.i (h.I.toNat : Int), D.i (i.I.toNat : Int), D.l j.L, D.l k.L, D.l l.L, D.l m.L])) := by kernel_rfl
end Go.Proofs.Ytipbcpobnciccaa
namespace Go.Proofs.Ytipbcpobnciccaa
open Go.Lite
set_option maxRecDepth 100000
theorem minI_eq (a b : Int) : minI a b = min a b := by
  unfold minI
  split <;> omega
theorem maxI_eq (a b : Int) : maxI a b = max a b := by
  unfold maxI
  split <;> omega
section
variable {n : Nat} (h8 : LoopSim C (n + 3) 72 (loopOf C.P 72 8) (mkL l72_8 G72_8))
include h8
theorem ok72_5 : LoopSim C (n + 3) 72 (loopOf C.P 72 5) (mkL l72_5 G72_5) := by
  refine loop_ofK hC (sp := sp72) (lp := lp72) (sw := sw72) ⟨ok60 (n + 2), ok27 n, trivial⟩ trivial 0 [8] (by kernel_rfl) (by kernel_rfl) (fun k hk L hL => by simp at hk; subst hk; cases hL; exact h8) (by kernel_rfl)
    (fun ds => 2 * potD (dueL (ds.getD 3 default).I (ds.getD 4 default).I (ds.getD 5 default).L (ds.getD 0 default).L) (ds.getD 10 default).L ((ds.getD 5 default).L.length + 1) + (if (ds.getD 2 default).B then 0 else 1)) fun ds rr h => ?_
  unfold G72_5 at h
  split at h
  · rename_i ch r s c f w n1 n2 n3 n4 du cl op chr
    obtain ⟨hp, h⟩ := need_some h
    rw [yes_iff] at hp
    obtain ⟨ht, h1, h2, hd, hs⟩ := hp
    have hb := big_eq
    obtain ⟨p0, p1, -⟩ := plan_of ht.1
    obtain ⟨-, -, -, d4, -⟩ := due_least (f := f.I) ht.1 ht.2
    have hpm := pot_max (m := 2000000) d4 hd.2.2.2.1 (w.L.length + 1)
    refine ⟨?_, ?_⟩
    · rw [fuelC]
      show 2 * potD (dueL c.I f.I w.L ch.L) du.L (w.L.length + 1) + (if s.B then 0 else 1) < _
      have : (w.L.length + 1) * 2000000 ≤ 61 * 2000000 := Nat.mul_le_mul_right _ (by omega)
      split <;> omega
    rw [show roundTK C (mkTab sp72 lp72 sw72) 72 (loopOf C.P 72 5) 0 l72_5 [ch, r, s, c, f, w, n1, n2, n3, n4, du, cl, op, chr] = _ from t72_5 ch r s c f w n1 n2 n3 n4 du cl op chr]
    have z2 : n1.I.toNat = w.L.length + 1 := by omega
    simp only [h1, Int.toNat_natCast, Int.toNat_zero, Nat.sub_zero, lenN] at h ⊢
    refine rd_not (fun hb => rd_yes ⟨ht, by trivial, by omega, hd, by omega, by omega⟩ ?_) fun hb => rd_out ?_
    · obtain ⟨a, b⟩ := sweep_ok ht (w.L.length + 1) 0 (x := (du.L, true)) (by omega) hd
      have hsame := sweep_same (c := c.I) (w := w.L) (ch := ch.L) (w.L.length + 1) 0 (x := (du.L, true))
      have hmore := sweep_more ht (w.L.length + 1) 0 (x := (du.L, true)) (by omega) hd rfl
      have hfix : (sweepF c.I w.L ch.L 0 (w.L.length + 1) (du.L, true)).2 = true → (sweepF c.I w.L ch.L 0 (w.L.length + 1) (du.L, true)).1 = dueL c.I f.I w.L ch.L := fun he => by
        obtain ⟨e1, -, e3⟩ := hsame he
        rw [e1]
        exact fix_due ht hd fun j hj => e3 j (Nat.zero_le _) (by omega)
      refine rd_again ((need_yes ⟨ht, by simp only [I_i, L_l], by simp only [I_i, L_l]; omega, a, hfix⟩).trans ?_) ?_
      · rw [← h]
        simp only [I_i, L_l, lenN, Int.toNat_natCast]
      · show 2 * potD (dueL c.I f.I w.L ch.L) (sweepF c.I w.L ch.L 0 (w.L.length + 1) (du.L, true)).1 (w.L.length + 1) + (if (sweepF c.I w.L ch.L 0 (w.L.length + 1) (du.L, true)).2 then 0 else 1) < 2 * potD (dueL c.I f.I w.L ch.L) du.L (w.L.length + 1) + (if s.B then 0 else 1)
        rw [hb]
        cases hsw : (sweepF c.I w.L ch.L 0 (w.L.length + 1) (du.L, true)).2 with
        | true =>
          rw [(hsame hsw).1]
          simp
        | false =>
          obtain ⟨i, hi, hlt⟩ := hmore hsw
          have : potD (dueL c.I f.I w.L ch.L) (sweepF c.I w.L ch.L 0 (w.L.length + 1) (du.L, true)).1 (w.L.length + 1) < potD (dueL c.I f.I w.L ch.L) du.L (w.L.length + 1) := pot_lt b a.2.2.2.2 hlt (w.L.length + 1) hi
          simp only [Bool.false_eq_true, if_false]
          omega
    · rw [← hs hb] at h
      exact h
  · cases h
omit h8 in
theorem ok72_32 : LoopSim C (n + 3) 72 (loopOf C.P 72 32) (mkL l72_32 G72_32) := by
  refine loop_ofK hC (sp := sp72) (lp := lp72) (sw := sw72) ⟨ok60 (n + 2), ok27 n, trivial⟩ trivial 0 [] (by kernel_rfl) rfl (fun k hk => by cases hk) (by kernel_rfl) (fun ds => ((ds.getD 0 default).I - (ds.getD 1 default).I).toNat) fun ds rr h => ?_
  unfold G72_32 at h
  split at h
  · rename_i r i c f w n1 n2 n3 n4 du cl op chr
    obtain ⟨hp, h⟩ := need_some h
    rw [yes_iff] at hp
    obtain ⟨hp, h1, ⟨h2, h3⟩, h4, h5, h6, h7, h8, h9, h10⟩ := hp
    have hb := big_eq
    obtain ⟨p0, p1, -⟩ := plan_of hp
    refine ⟨by rw [fuelC]; simp; omega, ?_⟩
    rw [show roundTK C (mkTab sp72 lp72 sw72) 72 (loopOf C.P 72 32) 0 l72_32 [r, i, c, f, w, n1, n2, n3, n4, du, cl, op, chr] = _ from t72_32 r i c f w n1 n2 n3 n4 du cl op chr]
    obtain ⟨k, hk⟩ : ∃ k : Nat, i.I = k := ⟨i.I.toNat, by omega⟩
    have z1 : ((w.L.length : Int) + 1).toNat = w.L.length + 1 := by omega
    simp only [hk, h1, h4, h5, h6, h9, h10, z1, Int.toNat_natCast, Nat.reduceAdd, ix_def, upd1, rs_def, lenN] at h h2 h3 ⊢
    refine rd_if (fun hlt => ?_) fun hge => rd_out ?_
    · have hkl : k < w.L.length := by omega
      have c1 := wayC_of (way_of hp hkl).1
      have b1 := busy_of hp hkl
      have s1 := span_of hp hkl
      have d1 := h8 k
      have lc : (rowF (clG w.L (rg du.L)) 0 k ++ zerR (w.L.length - k)).length = w.L.length := by rw [List.length_append, len_rowF, zer_len]; omega
      have lo : (rowF (opG c.I w.L (rg du.L)) 0 k ++ zerR (w.L.length - k)).length = w.L.length := by rw [List.length_append, len_rowF, zer_len]; omega
      rw [wrap_succ (by omega)]
      have z4 : IntKind.i64.wrap (ix (du.L.getD k []) 0 - ix (w.L.getD k []) 1) = clG w.L (rg du.L) k := wrap_id (x := rg du.L k - ix (w.L.getD k []) 1) (by omega) (by omega)
      have z5 : IntKind.i64.wrap (IntKind.i64.wrap (IntKind.i64.wrap (ix (du.L.getD k []) 0 + spanF c.I (w.L.getD k [])) + ix (w.L.getD k []) 0) + ix (w.L.getD k []) 2) = opG c.I w.L (rg du.L) k := by
        have e : ix (du.L.getD k []) 0 = rg du.L k := rfl
        rw [e, wrap_id (x := rg du.L k + spanF c.I (w.L.getD k [])) (by omega) (by omega), wrap_id (x := rg du.L k + spanF c.I (w.L.getD k []) + ix (w.L.getD k []) 0) (by omega) (by omega), wrap_id (by omega) (by omega)]
        unfold opG busyF
        omega
      rw [show w.L.length - k = (w.L.length - (k + 1)) + 1 by omega] at lc lo ⊢
      simp only [z4, z5, rowF_rep _ _ _ _ rfl]
      refine rd_dec (by omega) (rd_dec (by omega) (rd_dec (by omega) (rd_dec (by omega) (rd_dec (by omega) (rd_dec (by omega) (rd_dec (by omega) (rd_yes ⟨hp, by omega, by omega⟩ (rd_dec (by omega) (rd_dec (by omega) (rd_dec (by omega) (rd_dec (by omega) (rd_again ?_ ?_))))))))))))
      · refine (need_yes ⟨hp, rfl, ⟨by simp only [I_i]; omega, by simp only [I_i]; omega⟩, by simp only [I_i, L_l]; omega, rfl, rfl, h7, h8, by simp only [I_i, L_l, Int.toNat_natCast], by simp only [I_i, L_l, Int.toNat_natCast]⟩).trans ?_
        rw [← h]
        simp only [I_i, L_l, lenN, Int.toNat_natCast]
      · show ((w.L.length : Int) - ((k + 1 : Nat) : Int)).toNat < (r.I - i.I).toNat
        omega
    · rw [← h]
      have e : k = w.L.length := by omega
      subst e
      simp only [Nat.sub_self]
      rw [show zerR 0 = [] from rfl, List.append_nil, List.append_nil]
      rfl
  · cases h
theorem ok72 : FnOK C (n + 4) 72 (mkF s72 G72) := by
  refine fn_ofS hC (sp := sp72) (lp := lp72) (sw := sw72) ⟨ok60 (n + 2), ok27 n, trivial⟩ trivial (by kernel_rfl) [5, 32] (by kernel_rfl) (by kernel_rfl) (fun k hk L hL => by
      simp at hk
      rcases hk with rfl | rfl <;> cases hL
      · exact ok72_5 h8
      · exact ok72_32) fun ds rr h => ?_
  unfold G72 at h
  split at h
  · rename_i c f w ch d0
    obtain ⟨hp, h⟩ := need_some h
    rw [yes_iff] at hp
    obtain ⟨ht, h0⟩ := hp
    refine (congrArg T.run (t72 c f w ch d0)).trans ?_
    rw [← h]
    have hb := big_eq
    obtain ⟨p0, p1, p2, p3⟩ := plan_of ht.1
    obtain ⟨d1, d2, ⟨s1, s2, s3⟩, d4, d5⟩ := due_least (f := f.I) ht.1 ht.2
    have hcl := ht.2.1
    have e0 : d0.L.isEmpty = false := by rw [h0]; rfl
    have e1 : ch.L.isEmpty = false := by
      cases hh : ch.L with
      | nil => rw [hh] at hcl; simp at hcl; omega
      | cons a b => rfl
    have b3 : Try.prog.types[3].bytes = 8 := by kernel_rfl
    have lz : (zerR (w.L.length + 1)).length = w.L.length + 1 := zer_len _
    have lc : (rowF (clG w.L (rg (dueL c.I f.I w.L ch.L))) 0 w.L.length).length = w.L.length := len_rowF _ _ _
    have lo : (rowF (opG c.I w.L (rg (dueL c.I f.I w.L ch.L))) 0 w.L.length).length = w.L.length := len_rowF _ _ _
    have hset : ∀ v : Int, v = maxI 0 f.I → dueOK c.I f.I w.L ch.L (rs (zerR (w.L.length + 1)) 0 v) := fun v hv => by
      have hv : v = f.I := by rw [hv, maxI_eq]; omega
      subst hv
      have g : ∀ j, rg (rs (zerR (w.L.length + 1)) 0 f.I) j = if j = 0 then f.I else rg (zerR (w.L.length + 1)) j := fun j => rg_rs (by rw [lz]; omega) _ j
      have g0 : ∀ j, rg (zerR (w.L.length + 1)) j = 0 := fun j => by
        by_cases hj : j < w.L.length + 1
        · exact rg_rep hj
        · exact rg_ge (by rw [lz]; omega)
      refine ⟨by rw [len_rs, lz], canon_rs (canon_rep _ _) _ _, by rw [g, if_pos rfl]; exact Int.le_refl _, fun j => ?_, fun j => ?_⟩
      · rw [g, g0]
        split <;> omega
      · rw [g, g0]
        split
        · rename_i e; rw [e]; exact s1
        · exact s2 j
    have g00 : ix ((zerR (w.L.length + 1)).getD 0 []) 0 = 0 := rfl
    have ec : rowF (clG w.L (rg (dueL c.I f.I w.L ch.L))) 0 w.L.length = clR c.I f.I w.L ch.L := rfl
    have eo : rowF (opG c.I w.L (rg (dueL c.I f.I w.L ch.L))) 0 w.L.length = opR c.I f.I w.L ch.L := rfl
    have lc2 : (clR c.I f.I w.L ch.L).length = w.L.length := lc
    have lo2 : (opR c.I f.I w.L ch.L).length = w.L.length := lo
    have td : (dueL c.I f.I w.L ch.L).take (w.L.length + 1) = dueL c.I f.I w.L ch.L := List.take_of_length_le (by omega)
    have tc : (clR c.I f.I w.L ch.L).take w.L.length = clR c.I f.I w.L ch.L := List.take_of_length_le (by omega)
    have to : (opR c.I f.I w.L ch.L).take w.L.length = opR c.I f.I w.L ch.L := List.take_of_length_le (by omega)
    have th : ch.L.take w.L.length = ch.L := List.take_of_length_le (by omega)
    simp only [h0, lz, Int.toNat_natCast, Int.toNat_zero, List.length_replicate, Nat.sub_zero, b3, ix_def, upd1, rs_def, g00, ec, eo, td, tc, to, th, hcl, d1, lc2, lo2, fits_due ht.1 ht.2]
    refine go_false (by rw [← h0]; exact e0) (go_dec (by omega) (go_dec ⟨by omega, by trivial, by omega, by omega⟩ (go_dec ⟨by omega, by trivial, by omega, by omega⟩ (go_false e1 (go_dec (by omega) (go_dec (by omega) (go_dec (by omega) (go_dec (by omega) (go_dec (by omega)
      (go_yes ⟨ht, by trivial, by omega, hset _ rfl, fun hh => by cases hh⟩ (go_yes ⟨ht.1, by trivial, ⟨by omega, by omega⟩, by omega, by trivial, by trivial, by first | exact d1 | trivial, fun j => ⟨s2 j, by have := d4 j; omega⟩, rfl, rfl⟩ (go_dec (by omega) (go_dec (by omega) (go_dec (by omega) (go_dec (by omega)
      (go_yes ⟨ht.1, by omega, by omega, by omega, by omega⟩ rfl))))))))))))))))
  · cases h
end
end Go.Proofs.Ytipbcpobnciccaa
namespace Go.Proofs.Ytipbcpobnciccaa
open Go.Lite
set_option maxRecDepth 100000
theorem make_ok' {c f : Int} {w : List (List D)} : ∀ (k : Nat) {ch : List (List D)}, carOK w ch → (makeF c f w k ch).1 = 0 ∨ (makeF c f w k ch).1 = 5 ∨ (makeF c f w k ch).1 = 9
  | 0, ch, h => .inr (.inr rfl)
  | k + 1, ch, h => by
    simp only [makeF]
    by_cases hd : duesOk c f w ch = true
    · rw [if_pos hd]
      exact .inl rfl
    · rw [if_neg hd]
      by_cases hn : (carryF w w.length ch).2 < 0
      · rw [if_pos hn]
        exact .inr (.inl rfl)
      · rw [if_neg hn]
        exact make_ok' k (step_ok h (by omega))
section
variable {n : Nat} (h72 : FnOK C n 72 (mkF s72 G72))
include h72
theorem ok42_15 : LoopSim C n 42 (loopOf C.P 42 15) (mkL l42_15 G42_15) := by
  refine loop_ofK hC (sp := sp42) (lp := lp42) (sw := sw42) ⟨h72, trivial⟩ trivial 0 [] (by kernel_rfl) rfl (fun k hk => by cases hk) (by kernel_rfl) (fun ds => ((ds.getD 3 default).I + 1).toNat) fun ds rr h => ?_
  unfold G42_15 at h
  split at h
  · rename_i r m t j c f w ch
    obtain ⟨hp, h⟩ := need_some h
    rw [yes_iff] at hp
    obtain ⟨hp, h1, hc, h2, h3⟩ := hp
    have hb := big_eq
    obtain ⟨p0, p1, -⟩ := plan_of hp
    refine ⟨by rw [fuelC]; simp; omega, ?_⟩
    rw [show roundTK C (mkTab sp42 lp42 sw42) 42 (loopOf C.P 42 15) 0 l42_15 [r, m, t, j, c, f, w, ch] = _ from t42_15 r m t j c f w ch]
    refine rd_if (fun hge => ?_) fun hlt => rd_out ?_
    · obtain ⟨k, hk⟩ : ∃ k : Nat, j.I = k := ⟨j.I.toNat, by omega⟩
      have hkl : k < w.L.length := by omega
      have hcl := hc.1.1
      have hd := digit_of hc.1 hkl
      have hh := (wayC_of (way_of hp hkl).1).2.2.2.2.2.2
      have hn : hoursN w.L k = ((lx (w.L.getD k []) 7).length : Int) := rfl
      have e1 : ((k : Int) + 1).toNat = k + 1 := by omega
      have e2 : minI 0 (IntKind.i64.wrap (hoursN w.L k - 1)) = zeroC w.L k := by
        rw [wrap_id (by omega) (by omega), minI_eq, zero_eq]
      have e3 : IntKind.i64.wrap (ix (ch.L.getD k []) 0 + 1) = rg ch.L k + 1 := wrap_id (x := rg ch.L k + 1) (by omega) (by omega)
      simp only [hk, h1, Int.toNat_natCast, Nat.reduceAdd, lx_def, ix_def, upd1, rs_def, e1, e2, e3, carryF, lenN, ← hn] at h h2 h3 ⊢
      rw [wrap_pred (by omega)]
      have hmu : ((k : Int) - 1 + 1).toNat < (j.I + 1).toNat := by omega
      refine rd_dec (by omega) (rd_dec (by omega) (rd_dec (by omega) (rd_if (fun hc2 => rd_dec (by omega) (rd_dec (by omega) (rd_dec (by omega) (rd_again ?_ hmu)))) fun hc2 => rd_out ?_)))
      · refine (need_yes ⟨hp, rfl, set_ok hc hkl (zero_digit k), by simp only [I_i]; omega, by simp only [I_i, L_l]; omega⟩).trans ?_
        rw [if_pos (by omega)] at h
        simp only [I_i, L_l, show ((k : Int) - 1 + 1).toNat = k by omega]
        exact h
      · rw [if_neg (by omega)] at h
        exact h
    · simp only [lenN, h1, Int.toNat_natCast] at h ⊢
      have e : j.I = -1 := by omega
      rw [e] at h ⊢
      exact h
  · cases h
theorem ok42_9 : LoopSim C n 42 (loopOf C.P 42 9) (mkL l42_9 G42_9) := by
  refine loop_ofK hC (sp := sp42) (lp := lp42) (sw := sw42) ⟨h72, trivial⟩ trivial 0 [15] (by kernel_rfl) (by kernel_rfl) (fun k hk L hL => by simp at hk; subst hk; cases hL; exact ok42_15 h72) (by kernel_rfl) (fun ds => (20000 - (ds.getD 2 default).I).toNat) fun ds rr h => ?_
  unfold G42_9 at h
  split at h
  · rename_i r m t c f w ch
    obtain ⟨hp, h⟩ := need_some h
    rw [yes_iff] at hp
    obtain ⟨hp, h1, h2, hc, t0, t1⟩ := hp
    have hb := big_eq
    obtain ⟨p0, p1, -⟩ := plan_of hp
    refine ⟨by rw [fuelC]; show (20000 - t.I).toNat < _; omega, ?_⟩
    rw [show roundTK C (mkTab sp42 lp42 sw42) 42 (loopOf C.P 42 9) 0 l42_9 [r, m, t, c, f, w, ch] = _ from t42_9 r m t c f w ch]
    have hcl := hc.1.1
    have e1 : IntKind.i64.wrap ((w.L.length : Int) - 1) = (w.L.length : Int) - 1 := wrap_pred (by omega)
    have e2 : ((w.L.length : Int) - 1 + 1).toNat = w.L.length := by omega
    have e3 : IntKind.i64.wrap ((w.L.length : Int) + 1) = (w.L.length : Int) + 1 := wrap_id (by omega) (by omega)
    have e4 : ((w.L.length : Int) + 1).toNat = w.L.length + 1 := by omega
    have e5 : List.replicate (w.L.length + 1) [D.i 0] = zerR (w.L.length + 1) := rfl
    have lz : (zerR (w.L.length + 1)).length = w.L.length + 1 := zer_len _
    have tz : (zerR (w.L.length + 1)).take (w.L.length + 1) = zerR (w.L.length + 1) := List.take_of_length_le (by omega)
    have tc : ch.L.take w.L.length = ch.L := List.take_of_length_le (by omega)
    simp only [h1, h2, Int.toNat_natCast, e1, e2, e3, e4, e5, lz, tz, tc, bytes3, upd1, rs_def, ix_def]
    refine rd_if (fun hlt => ?_) fun hge => ?_
    · obtain ⟨k, hk⟩ : ∃ k : Nat, (20000 - t.I).toNat = k + 1 := ⟨(20000 - t.I).toNat - 1, by omega⟩
      have hk2 : (20000 - (t.I + 1)).toNat = k := by omega
      rw [hk] at h
      have hm : makeF c.I f.I w.L (k + 1) ch.L = if duesOk c.I f.I w.L ch.L then (0, ch.L) else if (carryF w.L w.L.length ch.L).2 < 0 then (5, ch.L) else makeF c.I f.I w.L k (stepC (carryF w.L w.L.length ch.L)) := rfl
      refine rd_dec ⟨by omega, by trivial, by omega, by omega⟩ (rd_dec (by omega) (rd_dec (by omega) (rd_yes ⟨⟨hp, hc.1⟩, by trivial⟩ (rd_ite (fun hd => rd_out ?_) fun hd => rd_yes ⟨hp, by trivial, hc, by omega, by omega⟩ (rd_if (fun hn => rd_out ?_) fun hn => ?_)))))
      · rw [if_pos hd] at hm
        rw [hm] at h
        rw [hcl]
        exact h
      · rw [if_neg (by rw [hd]; exact Bool.false_ne_true), if_pos hn] at hm
        rw [hm] at h
        exact h
      · rw [if_neg (by rw [hd]; exact Bool.false_ne_true), if_neg hn] at hm
        rw [hm] at h
        have hnn : 0 ≤ (carryF w.L w.L.length ch.L).2 := by omega
        obtain ⟨a, b, d, e, e'⟩ := carry_ok w.L.length (Nat.le_refl _) hc
        have al := a.1.1
        have hdg := digit_of a.1 (j := (carryF w.L w.L.length ch.L).2.toNat) (by omega)
        have hh := (wayC_of (way_of hp (k := (carryF w.L w.L.length ch.L).2.toNat) (by omega)).1).2.2.2.2.2.2
        have e6 : IntKind.i64.wrap (ix ((carryF w.L w.L.length ch.L).1.getD (carryF w.L w.L.length ch.L).2.toNat []) 0 + 1) = rg (carryF w.L w.L.length ch.L).1 (carryF w.L w.L.length ch.L).2.toNat + 1 := by
          have : hoursN w.L (carryF w.L w.L.length ch.L).2.toNat ≤ 10 := by unfold hoursN; omega
          exact wrap_id (x := rg (carryF w.L w.L.length ch.L).1 (carryF w.L w.L.length ch.L).2.toNat + 1) (by omega) (by omega)
        have e7 : IntKind.i64.wrap (t.I + 1) = t.I + 1 := wrap_id (by omega) (by omega)
        simp only [e6, e7]
        refine rd_dec (by omega) (rd_dec (by omega) (rd_dec (by omega) (rd_dec (by omega) (rd_again ((need_yes ⟨hp, rfl, rfl, step_ok hc hnn, by simp only [I_i]; omega, by simp only [I_i]; omega⟩).trans ?_) (show (20000 - (t.I + 1)).toNat < (20000 - t.I).toNat by omega)))))
        simp only [I_i, L_l, hk2]
        exact h
    · rw [show (20000 - t.I).toNat = 0 by omega] at h
      exact rd_out h
  · cases h
theorem ok42 : FnOK C (n + 1) 42 (mkF s42 G42) := by
  refine fn_ofS hC (sp := sp42) (lp := lp42) (sw := sw42) ⟨h72, trivial⟩ trivial (by kernel_rfl) [4, 9] (by kernel_rfl) (by kernel_rfl) (fun k hk L hL => by
      simp at hk
      rcases hk with rfl | rfl <;> cases hL
      · exact ok42_4 h72
      · exact ok42_9 h72) fun ds rr h => ?_
  unfold G42 at h
  split at h
  · rename_i c f w
    obtain ⟨hp, h⟩ := need_some h
    rw [yes_iff] at hp
    refine (congrArg T.run (t42 c f w)).trans ?_
    obtain ⟨p0, p1, -⟩ := plan_of hp
    have e0 : ((20000 : Int) - 0).toNat = 20000 := by decide
    have e1 : makeF c.I f.I w.L 20000 (firstC w.L) = foundC c.I f.I w.L := rfl
    have hcs := make_ok' (c := c.I) (f := f.I) (w := w.L) triesN (ch := firstC w.L) first_ok
    have e2 : makeF c.I f.I w.L triesN (firstC w.L) = foundC c.I f.I w.L := rfl
    rw [e2] at hcs
    simp only [Int.toNat_natCast, Int.toNat_zero, Nat.sub_zero, List.length_replicate, bytes3, e0, e1]
    refine go_dec ⟨by omega, by trivial, by omega, by omega⟩ (go_yes ⟨hp, by trivial, ⟨by omega, by omega⟩, by trivial, rfl⟩ (go_yes ⟨hp, by trivial, by trivial, first_ok, by omega, by omega⟩ ?_))
    rcases hcs with h0 | h5 | h9
    · rw [h0] at h ⊢
      exact h
    · rw [h5] at h ⊢
      exact h
    · rw [h9] at h ⊢
      exact h
  · cases h
end
end Go.Proofs.Ytipbcpobnciccaa
namespace Go.Lite
def T.thenT {α : Type} : T α → T α
  | .ite _ t _ => t
  | t => t
def T.elseT {α : Type} : T α → T α
  | .ite _ _ e => e
  | t => t
def T.needT {α : Type} : T α → T α
  | .need _ t => t
  | t => t
end Go.Lite
namespace Go.Proofs.Ytipbcpobnciccaa
open Go.Lite
set_option linter.unusedVariables false
set_option maxRecDepth 100000
theorem t72_8 (a b c d e f g h i j k l m n o : D) : (roundT C tab72 72 (loopOf C.P 72 8) l72_8 [a, b, c, d, e, f, g, h, i, j, k, l, m, n, o]).run =
  T.run (T.ite (decide (d.I ≤ b.I)) (T.need (decide ((0 : Int) ≤ d.I ∧ d.I < (h.I.toNat : Int))) (T.need (decide (d.I.toNat < l.L.length)) (T.ite (decide (d.I > (0 : Int))) (T.need (decide ((0 : Int) ≤ IntKind.wrap IntKind.i64 (d.I - (1 : Int)) ∧ IntKind.wrap IntKind.i64 (d.I - (1 : Int)) < (h.I.toNat : Int))) (T.need (decide (Int.toNat (IntKind.wrap IntKind.i64 (d.I - (1 : Int))) < l.L.length)) (T.need (decide ((0 : Int) ≤ IntKind.wrap IntKind.i64 (d.I - (1 : Int)) ∧ IntKind.wrap IntKind.i64 (d.I - (1 : Int)) < (g.L.length : Int))) (T.ite (decide (d.I < b.I)) (T.need (decide ((0 : Int) ≤ d.I ∧ d.I < (g.L.length : Int))) (T.ite (D.B (List.getD (List.getD g.L d.I.toNat []) (0 + 1 + 1 + 1 + 1) default)) (T.need (yes (planB e.I f.I g.L = true ∧ (0 : Int) ≤ IntKind.wrap IntKind.i64 (d.I - (1 : Int)) ∧ IntKind.wrap IntKind.i64 (d.I - (1 : Int)) < (g.L.length : Int))) (T.need (decide ((0 : Int) ≤ d.I ∧ d.I < (g.L.length : Int))) (T.ite (decide (d.I < b.I)) (T.need (decide ((0 : Int) ≤ d.I ∧ d.I < (a.L.length : Int))) (T.ite (decide (D.I (List.getD (List.getD a.L d.I.toNat []) 0 default) ≥ (0 : Int))) (T.need (decide ((0 : Int) ≤ d.I ∧ d.I < (g.L.length : Int))) (T.need (decide ((0 : Int) ≤ d.I ∧ d.I < (a.L.length : Int))) (T.need (decide ((0 : Int) ≤ D.I (List.getD (List.getD a.L d.I.toNat []) 0 default) ∧ D.I (List.getD (List.getD a.L d.I.toNat []) 0 default) < (↑(List.length (D.L (List.getD (List.getD g.L d.I.toNat []) (0 + 1 + 1 + 1 + 1 + 1 + 1 + 1) default))) : Int))) (T.need (decide ((0 : Int) ≤ d.I ∧ d.I < (g.L.length : Int))) (T.ite (decide (d.I < b.I)) (T.need (decide ((0 : Int) ≤ IntKind.wrap IntKind.i64 (d.I + (1 : Int)) ∧ IntKind.wrap IntKind.i64 (d.I + (1 : Int)) < (h.I.toNat : Int))) (T.need (decide (Int.toNat (IntKind.wrap IntKind.i64 (d.I + (1 : Int))) < l.L.length)) (T.need (decide ((0 : Int) ≤ d.I ∧ d.I < (g.L.length : Int))) (T.ite (decide (IntKind.wrap IntKind.i64 (d.I + (1 : Int)) < b.I)) (T.need (decide ((0 : Int) ≤ IntKind.wrap IntKind.i64 (d.I + (1 : Int)) ∧ IntKind.wrap IntKind.i64 (d.I + (1 : Int)) < (g.L.length : Int))) (T.ite (D.B (List.getD (List.getD g.L (Int.toNat (IntKind.wrap IntKind.i64 (d.I + (1 : Int)))) []) (0 + 1 + 1 + 1 + 1) default)) (T.need (yes (planB e.I f.I g.L = true ∧ (0 : Int) ≤ d.I ∧ d.I < (g.L.length : Int))) (T.need (decide ((0 : Int) ≤ IntKind.wrap IntKind.i64 (d.I + (1 : Int)) ∧ IntKind.wrap IntKind.i64 (d.I + (1 : Int)) < (g.L.length : Int))) (T.ite (decide (maxI (maxI (maxI (D.I (List.getD (List.getD l.L d.I.toNat []) 0 default)) (IntKind.wrap IntKind.i64 (IntKind.wrap IntKind.i64 (IntKind.wrap IntKind.i64 (D.I (List.getD (List.getD l.L (Int.toNat (IntKind.wrap IntKind.i64 (d.I - (1 : Int)))) []) 0 default) + D.I (List.getD (List.getD g.L (Int.toNat (IntKind.wrap IntKind.i64 (d.I - (1 : Int)))) []) 0 default)) + spanF e.I (List.getD g.L (Int.toNat (IntKind.wrap IntKind.i64 (d.I - (1 : Int)))) [])) + D.I (List.getD (List.getD g.L d.I.toNat []) (0 + 1 + 1 + 1 + 1 + 1) default)))) (IntKind.wrap IntKind.i64 (D.I (List.getD (List.getD (D.L (List.getD (List.getD g.L d.I.toNat []) (0 + 1 + 1 + 1 + 1 + 1 + 1 + 1) default)) (Int.toNat (D.I (List.getD (List.getD a.L d.I.toNat []) 0 default))) []) 0 default) + D.I (List.getD (List.getD g.L d.I.toNat []) (0 + 1) default)))) (IntKind.wrap IntKind.i64 (IntKind.wrap IntKind.i64 (IntKind.wrap IntKind.i64 (D.I (List.getD (List.getD l.L (Int.toNat (IntKind.wrap IntKind.i64 (d.I + (1 : Int)))) []) 0 default) - D.I (List.getD (List.getD g.L d.I.toNat []) 0 default)) - spanF e.I (List.getD g.L d.I.toNat [])) - D.I (List.getD (List.getD g.L (Int.toNat (IntKind.wrap IntKind.i64 (d.I + (1 : Int)))) []) (0 + 1 + 1 + 1 + 1 + 1 + 1) default))) > (1000000000 : Int))) T.fail (T.need (decide ((0 : Int) ≤ d.I ∧ d.I < (h.I.toNat : Int))) (T.need (decide (d.I.toNat < l.L.length)) (T.ite (maxI (maxI (maxI (D.I (List.getD (List.getD l.L d.I.toNat []) 0 default)) (IntKind.wrap IntKind.i64 (IntKind.wrap IntKind.i64 (IntKind.wrap IntKind.i64 (D.I (List.getD (List.getD l.L (Int.toNat (IntKind.wrap IntKind.i64 (d.I - (1 : Int)))) []) 0 default) + D.I (List.getD (List.getD g.L (Int.toNat (IntKind.wrap IntKind.i64 (d.I - (1 : Int)))) []) 0 default)) + spanF e.I (List.getD g.L (Int.toNat (IntKind.wrap IntKind.i64 (d.I - (1 : Int)))) [])) + D.I (List.getD (List.getD g.L d.I.toNat []) (0 + 1 + 1 + 1 + 1 + 1) default)))) (IntKind.wrap IntKind.i64 (D.I (List.getD (List.getD (D.L (List.getD (List.getD g.L d.I.toNat []) (0 + 1 + 1 + 1 + 1 + 1 + 1 + 1) default)) (Int.toNat (D.I (List.getD (List.getD a.L d.I.toNat []) 0 default))) []) 0 default) + D.I (List.getD (List.getD g.L d.I.toNat []) (0 + 1) default)))) (IntKind.wrap IntKind.i64 (IntKind.wrap IntKind.i64 (IntKind.wrap IntKind.i64 (D.I (List.getD (List.getD l.L (Int.toNat (IntKind.wrap IntKind.i64 (d.I + (1 : Int)))) []) 0 default) - D.I (List.getD (List.getD g.L d.I.toNat []) 0 default)) - spanF e.I (List.getD g.L d.I.toNat [])) - D.I (List.getD (List.getD g.L (Int.toNat (IntKind.wrap IntKind.i64 (d.I + (1 : Int)))) []) (0 + 1 + 1 + 1 + 1 + 1 + 1) default))) != D.I (List.getD (List.getD l.L d.I.toNat []) 0 default)) (T.need (decide ((0 : Int) ≤ d.I ∧ d.I < (h.I.toNat : Int))) (T.need (decide (d.I.toNat < l.L.length)) (T.leaf (Rd.again [D.l a.L, D.i b.I, D.b false, D.i (IntKind.wrap IntKind.i64 (d.I + (1 : Int))), D.i e.I, D.i f.I, D.l g.L, D.i (h.I.toNat : Int), D.i (i.I.toNat : Int), D.i (j.I.toNat : Int), D.i (k.I.toNat : Int), D.l (List.set l.L d.I.toNat (updC (List.getD l.L d.I.toNat []) [D.i (maxI (maxI (maxI (D.I (List.getD (List.getD l.L d.I.toNat []) 0 default)) (IntKind.wrap IntKind.i64 (IntKind.wrap IntKind.i64 (IntKind.wrap IntKind.i64 (D.I (List.getD (List.getD l.L (Int.toNat (IntKind.wrap IntKind.i64 (d.I - (1 : Int)))) []) 0 default) + D.I (List.getD (List.getD g.L (Int.toNat (IntKind.wrap IntKind.i64 (d.I - (1 : Int)))) []) 0 default)) + spanF e.I (List.getD g.L (Int.toNat (IntKind.wrap IntKind.i64 (d.I - (1 : Int)))) [])) + D.I (List.getD (List.getD g.L d.I.toNat []) (0 + 1 + 1 + 1 + 1 + 1) default)))) (IntKind.wrap IntKind.i64 (D.I (List.getD (List.getD (D.L (List.getD (List.getD g.L d.I.toNat []) (0 + (1 : Nat) + (1 : Nat) + (1 : Nat) + (1 : Nat) + 1 + 1 + 1) default)) (Int.toNat (D.I (List.getD (List.getD a.L d.I.toNat []) 0 default))) []) 0 default) + D.I (List.getD (List.getD g.L d.I.toNat []) (0 + 1) default)))) (IntKind.wrap IntKind.i64 (IntKind.wrap IntKind.i64 (IntKind.wrap IntKind.i64 (D.I (List.getD (List.getD l.L (Int.toNat (IntKind.wrap IntKind.i64 (d.I + (1 : Int)))) []) 0 default) - D.I (List.getD (List.getD g.L d.I.toNat []) 0 default)) - spanF e.I (List.getD g.L d.I.toNat [])) - D.I (List.getD (List.getD g.L (Int.toNat (IntKind.wrap IntKind.i64 (d.I + (1 : Int)))) []) (0 + 1 + 1 + 1 + 1 + 1 + 1) default))))] 0 0 (List.length [K.int IntKind.i64]))), D.l m.L, D.l n.L, D.l o.L])))) (T.leaf (Rd.again [D.l a.L, D.i b.I, D.b c.B, D.i (IntKind.wrap IntKind.i64 (d.I + (1 : Int))), D.i e.I, D.i f.I, D.l g.L, D.i (h.I.toNat : Int), D.i (i.I.toNat : Int), D.i (j.I.toNat : Int), D.i (k.I.toNat : Int), D.l l.L, D.l m.L, D.l n.L, D.l o.L])))))))) (T.ite (decide (maxI (maxI (maxI (D.I (List.getD (List.getD l.L d.I.toNat []) 0 default)) (IntKind.wrap IntKind.i64 (IntKind.wrap IntKind.i64 (IntKind.wrap IntKind.i64 (D.I (List.getD (List.getD l.L (Int.toNat (IntKind.wrap IntKind.i64 (d.I - (1 : Int)))) []) 0 default) + D.I (List.getD (List.getD g.L (Int.toNat (IntKind.wrap IntKind.i64 (d.I - (1 : Int)))) []) 0 default)) + spanF e.I (List.getD g.L (Int.toNat (IntKind.wrap IntKind.i64 (d.I - (1 : Int)))) [])) + D.I (List.getD (List.getD g.L d.I.toNat []) (0 + 1 + 1 + 1 + 1 + 1) default)))) (IntKind.wrap IntKind.i64 (D.I (List.getD (List.getD (D.L (List.getD (List.getD g.L d.I.toNat []) (0 + 1 + 1 + 1 + 1 + 1 + 1 + 1) default)) (Int.toNat (D.I (List.getD (List.getD a.L d.I.toNat []) 0 default))) []) 0 default) + D.I (List.getD (List.getD g.L d.I.toNat []) (0 + 1) default)))) (IntKind.wrap IntKind.i64 (D.I (List.getD (List.getD l.L (Int.toNat (IntKind.wrap IntKind.i64 (d.I + (1 : Int)))) []) 0 default) - D.I (List.getD (List.getD g.L d.I.toNat []) 0 default))) > (1000000000 : Int))) T.fail (T.need (decide ((0 : Int) ≤ d.I ∧ d.I < (h.I.toNat : Int))) (T.need (decide (d.I.toNat < l.L.length)) (T.ite (maxI (maxI (maxI (D.I (List.getD (List.getD l.L d.I.toNat []) 0 default)) (IntKind.wrap IntKind.i64 (IntKind.wrap IntKind.i64 (IntKind.wrap IntKind.i64 (D.I (List.getD (List.getD l.L (Int.toNat (IntKind.wrap IntKind.i64 (d.I - (1 : Int)))) []) 0 default) + D.I (List.getD (List.getD g.L (Int.toNat (IntKind.wrap IntKind.i64 (d.I - (1 : Int)))) []) 0 default)) + spanF e.I (List.getD g.L (Int.toNat (IntKind.wrap IntKind.i64 (d.I - (1 : Int)))) [])) + D.I (List.getD (List.getD g.L d.I.toNat []) (0 + 1 + 1 + 1 + 1 + 1) default)))) (IntKind.wrap IntKind.i64 (D.I (List.getD (List.getD (D.L (List.getD (List.getD g.L d.I.toNat []) (0 + 1 + 1 + 1 + 1 + 1 + 1 + 1) default)) (Int.toNat (D.I (List.getD (List.getD a.L d.I.toNat []) 0 default))) []) 0 default) + D.I (List.getD (List.getD g.L d.I.toNat []) (0 + 1) default)))) (IntKind.wrap IntKind.i64 (D.I (List.getD (List.getD l.L (Int.toNat (IntKind.wrap IntKind.i64 (d.I + (1 : Int)))) []) 0 default) - D.I (List.getD (List.getD g.L d.I.toNat []) 0 default))) != D.I (List.getD (List.getD l.L d.I.toNat []) 0 default)) (T.need (decide ((0 : Int) ≤ d.I ∧ d.I < (h.I.toNat : Int))) (T.need (decide (d.I.toNat < l.L.length)) (T.leaf (Rd.again [D.l a.L, D.i b.I, D.b false, D.i (IntKind.wrap IntKind.i64 (d.I + (1 : Int))), D.i e.I, D.i f.I, D.l g.L, D.i (h.I.toNat : Int), D.i (i.I.toNat : Int), D.i (j.I.toNat : Int), D.i (k.I.toNat : Int), D.l (List.set l.L d.I.toNat (updC (List.getD l.L d.I.toNat []) [D.i (maxI (maxI (maxI (D.I (List.getD (List.getD l.L d.I.toNat []) 0 default)) (IntKind.wrap IntKind.i64 (IntKind.wrap IntKind.i64 (IntKind.wrap IntKind.i64 (D.I (List.getD (List.getD l.L (Int.toNat (IntKind.wrap IntKind.i64 (d.I - (1 : Int)))) []) 0 default) + D.I (List.getD (List.getD g.L (Int.toNat (IntKind.wrap IntKind.i64 (d.I - (1 : Int)))) []) 0 default)) + spanF e.I (List.getD g.L (Int.toNat (IntKind.wrap IntKind.i64 (d.I - (1 : Int)))) [])) + D.I (List.getD (List.getD g.L d.I.toNat []) (0 + 1 + 1 + 1 + 1 + 1) default)))) (IntKind.wrap IntKind.i64 (D.I (List.getD (List.getD (D.L (List.getD (List.getD g.L d.I.toNat []) (0 + (1 : Nat) + (1 : Nat) + 1 + 1 + 1 + 1 + 1) default)) (Int.toNat (D.I (List.getD (List.getD a.L d.I.toNat []) 0 default))) []) 0 default) + D.I (List.getD (List.getD g.L d.I.toNat []) (0 + 1) default)))) (IntKind.wrap IntKind.i64 (D.I (List.getD (List.getD l.L (Int.toNat (IntKind.wrap IntKind.i64 (d.I + (1 : Int)))) []) 0 default) - D.I (List.getD (List.getD g.L d.I.toNat []) 0 default))))] 0 0 (List.length [K.int IntKind.i64]))), D.l m.L, D.l n.L, D.l o.L])))) (T.leaf (Rd.again [D.l a.L, D.i b.I, D.b c.B, D.i (IntKind.wrap IntKind.i64 (d.I + (1 : Int))), D.i e.I, D.i f.I, D.l g.L, D.i (h.I.toNat : Int), D.i (i.I.toNat : Int), D.i (j.I.toNat : Int), D.i (k.I.toNat : Int), D.l l.L, D.l m.L, D.l n.L, D.l o.L])))))))) (T.ite (decide (maxI (maxI (maxI (D.I (List.getD (List.getD l.L d.I.toNat []) 0 default)) (IntKind.wrap IntKind.i64 (IntKind.wrap IntKind.i64 (IntKind.wrap IntKind.i64 (D.I (List.getD (List.getD l.L (Int.toNat (IntKind.wrap IntKind.i64 (d.I - (1 : Int)))) []) 0 default) + D.I (List.getD (List.getD g.L (Int.toNat (IntKind.wrap IntKind.i64 (d.I - (1 : Int)))) []) 0 default)) + spanF e.I (List.getD g.L (Int.toNat (IntKind.wrap IntKind.i64 (d.I - (1 : Int)))) [])) + D.I (List.getD (List.getD g.L d.I.toNat []) (0 + 1 + 1 + 1 + 1 + 1) default)))) (IntKind.wrap IntKind.i64 (D.I (List.getD (List.getD (D.L (List.getD (List.getD g.L d.I.toNat []) (0 + 1 + 1 + 1 + 1 + 1 + 1 + 1) default)) (Int.toNat (D.I (List.getD (List.getD a.L d.I.toNat []) 0 default))) []) 0 default) + D.I (List.getD (List.getD g.L d.I.toNat []) (0 + 1) default)))) (IntKind.wrap IntKind.i64 (D.I (List.getD (List.getD l.L (Int.toNat (IntKind.wrap IntKind.i64 (d.I + (1 : Int)))) []) 0 default) - D.I (List.getD (List.getD g.L d.I.toNat []) 0 default))) > (1000000000 : Int))) T.fail (T.need (decide ((0 : Int) ≤ d.I ∧ d.I < (h.I.toNat : Int))) (T.need (decide (d.I.toNat < l.L.length)) (T.ite (maxI (maxI (maxI (D.I (List.getD (List.getD l.L d.I.toNat []) 0 default)) (IntKind.wrap IntKind.i64 (IntKind.wrap IntKind.i64 (IntKind.wrap IntKind.i64 (D.I (List.getD (List.getD l.L (Int.toNat (IntKind.wrap IntKind.i64 (d.I - (1 : Int)))) []) 0 default) + D.I (List.getD (List.getD g.L (Int.toNat (IntKind.wrap IntKind.i64 (d.I - (1 : Int)))) []) 0 default)) + spanF e.I (List.getD g.L (Int.toNat (IntKind.wrap IntKind.i64 (d.I - (1 : Int)))) [])) + D.I (List.getD (List.getD g.L d.I.toNat []) (0 + 1 + 1 + 1 + 1 + 1) default)))) (IntKind.wrap IntKind.i64 (D.I (List.getD (List.getD (D.L (List.getD (List.getD g.L d.I.toNat []) (0 + 1 + 1 + 1 + 1 + 1 + 1 + 1) default)) (Int.toNat (D.I (List.getD (List.getD a.L d.I.toNat []) 0 default))) []) 0 default) + D.I (List.getD (List.getD g.L d.I.toNat []) (0 + 1) default)))) (IntKind.wrap IntKind.i64 (D.I (List.getD (List.getD l.L (Int.toNat (IntKind.wrap IntKind.i64 (d.I + (1 : Int)))) []) 0 default) - D.I (List.getD (List.getD g.L d.I.toNat []) 0 default))) != D.I (List.getD (List.getD l.L d.I.toNat []) 0 default)) (T.need (decide ((0 : Int) ≤ d.I ∧ d.I < (h.I.toNat : Int))) (T.need (decide (d.I.toNat < l.L.length)) (T.leaf (Rd.again [D.l a.L, D.i b.I, D.b false, D.i (IntKind.wrap IntKind.i64 (d.I + (1 : Int))), D.i e.I, D.i f.I, D.l g.L, D.i (h.I.toNat : Int), D.i (i.I.toNat : Int), D.i (j.I.toNat : Int), D.i (k.I.toNat : Int), D.l (List.set l.L d.I.toNat (updC (List.getD l.L d.I.toNat []) [D.i (maxI (maxI (maxI (D.I (List.getD (List.getD l.L d.I.toNat []) 0 default)) (IntKind.wrap IntKind.i64 (IntKind.wrap IntKind.i64 (IntKind.wrap IntKind.i64 (D.I (List.getD (List.getD l.L (Int.toNat (IntKind.wrap IntKind.i64 (d.I - (1 : Int)))) []) 0 default) + D.I (List.getD (List.getD g.L (Int.toNat (IntKind.wrap IntKind.i64 (d.I - (1 : Int)))) []) 0 default)) + spanF e.I (List.getD g.L (Int.toNat (IntKind.wrap IntKind.i64 (d.I - (1 : Int)))) [])) + D.I (List.getD (List.getD g.L d.I.toNat []) (0 + 1 + 1 + 1 + 1 + 1) default)))) (IntKind.wrap IntKind.i64 (D.I (List.getD (List.getD (D.L (List.getD (List.getD g.L d.I.toNat []) (0 + 1 + 1 + 1 + 1 + 1 + 1 + 1) default)) (Int.toNat (D.I (List.getD (List.getD a.L d.I.toNat []) 0 default))) []) 0 default) + D.I (List.getD (List.getD g.L d.I.toNat []) (0 + 1) default)))) (IntKind.wrap IntKind.i64 (D.I (List.getD (List.getD l.L (Int.toNat (IntKind.wrap IntKind.i64 (d.I + (1 : Int)))) []) 0 default) - D.I (List.getD (List.getD g.L d.I.toNat []) 0 default))))] 0 0 (List.length [K.int IntKind.i64]))), D.l m.L, D.l n.L, D.l o.L])))) (T.leaf (Rd.again [D.l a.L, D.i b.I, D.b c.B, D.i (IntKind.wrap IntKind.i64 (d.I + (1 : Int))), D.i e.I, D.i f.I, D.l g.L, D.i (h.I.toNat : Int), D.i (i.I.toNat : Int), D.i (j.I.toNat : Int), D.i (k.I.toNat : Int), D.l l.L, D.l m.L, D.l n.L, D.l o.L])))))))))) (T.elseT (T.needT (T.needT (T.needT (T.needT (T.thenT (T.needT (T.thenT (T.needT (T.needT (T.thenT (T.needT (T.thenT (T.needT (T.needT (T.needT (T.thenT (T.needT (T.needT (T.thenT (roundT C tab72 (72 : FuncId) (loopOf C.P (72 : FuncId) 8) l72_8 [a, b, c, d, e, f, g, h, i, j, k, l, m, n, o])))))))))))))))))))))))))) (T.need (decide ((0 : Int) ≤ d.I ∧ d.I < (g.L.length : Int))) (T.ite (decide (d.I < b.I)) (T.need (decide ((0 : Int) ≤ IntKind.wrap IntKind.i64 (d.I + (1 : Int)) ∧ IntKind.wrap IntKind.i64 (d.I + (1 : Int)) < (h.I.toNat : Int))) (T.need (decide (Int.toNat (IntKind.wrap IntKind.i64 (d.I + (1 : Int))) < l.L.length)) (T.need (decide ((0 : Int) ≤ d.I ∧ d.I < (g.L.length : Int))) (T.ite (decide (IntKind.wrap IntKind.i64 (d.I + (1 : Int)) < b.I)) (T.need (decide ((0 : Int) ≤ IntKind.wrap IntKind.i64 (d.I + (1 : Int)) ∧ IntKind.wrap IntKind.i64 (d.I + (1 : Int)) < (g.L.length : Int))) (T.ite (D.B (List.getD (List.getD g.L (Int.toNat (IntKind.wrap IntKind.i64 (d.I + (1 : Int)))) []) (0 + 1 + 1 + 1 + 1) default)) (T.need (yes (planB e.I f.I g.L = true ∧ (0 : Int) ≤ d.I ∧ d.I < (g.L.length : Int))) (T.need (decide ((0 : Int) ≤ IntKind.wrap IntKind.i64 (d.I + (1 : Int)) ∧ IntKind.wrap IntKind.i64 (d.I + (1 : Int)) < (g.L.length : Int))) (T.ite (decide (maxI (maxI (maxI (D.I (List.getD (List.getD l.L d.I.toNat []) 0 default)) (IntKind.wrap IntKind.i64 (IntKind.wrap IntKind.i64 (IntKind.wrap IntKind.i64 (D.I (List.getD (List.getD l.L (Int.toNat (IntKind.wrap IntKind.i64 (d.I - (1 : Int)))) []) 0 default) + D.I (List.getD (List.getD g.L (Int.toNat (IntKind.wrap IntKind.i64 (d.I - (1 : Int)))) []) 0 default)) + spanF e.I (List.getD g.L (Int.toNat (IntKind.wrap IntKind.i64 (d.I - (1 : Int)))) [])) + D.I (List.getD (List.getD g.L d.I.toNat []) (0 + 1 + 1 + 1 + 1 + 1) default)))) (IntKind.wrap IntKind.i64 ((0 : Int) + D.I (List.getD (List.getD g.L d.I.toNat []) (0 + 1) default)))) (IntKind.wrap IntKind.i64 (IntKind.wrap IntKind.i64 (IntKind.wrap IntKind.i64 (D.I (List.getD (List.getD l.L (Int.toNat (IntKind.wrap IntKind.i64 (d.I + (1 : Int)))) []) 0 default) - D.I (List.getD (List.getD g.L d.I.toNat []) 0 default)) - spanF e.I (List.getD g.L d.I.toNat [])) - D.I (List.getD (List.getD g.L (Int.toNat (IntKind.wrap IntKind.i64 (d.I + (1 : Int)))) []) (0 + 1 + 1 + 1 + 1 + 1 + 1) default))) > (1000000000 : Int))) T.fail (T.need (decide ((0 : Int) ≤ d.I ∧ d.I < (h.I.toNat : Int))) (T.need (decide (d.I.toNat < l.L.length)) (T.ite (maxI (maxI (maxI (D.I (List.getD (List.getD l.L d.I.toNat []) 0 default)) (IntKind.wrap IntKind.i64 (IntKind.wrap IntKind.i64 (IntKind.wrap IntKind.i64 (D.I (List.getD (List.getD l.L (Int.toNat (IntKind.wrap IntKind.i64 (d.I - (1 : Int)))) []) 0 default) + D.I (List.getD (List.getD g.L (Int.toNat (IntKind.wrap IntKind.i64 (d.I - (1 : Int)))) []) 0 default)) + spanF e.I (List.getD g.L (Int.toNat (IntKind.wrap IntKind.i64 (d.I - (1 : Int)))) [])) + D.I (List.getD (List.getD g.L d.I.toNat []) (0 + 1 + 1 + 1 + 1 + 1) default)))) (IntKind.wrap IntKind.i64 ((0 : Int) + D.I (List.getD (List.getD g.L d.I.toNat []) (0 + 1) default)))) (IntKind.wrap IntKind.i64 (IntKind.wrap IntKind.i64 (IntKind.wrap IntKind.i64 (D.I (List.getD (List.getD l.L (Int.toNat (IntKind.wrap IntKind.i64 (d.I + (1 : Int)))) []) 0 default) - D.I (List.getD (List.getD g.L d.I.toNat []) 0 default)) - spanF e.I (List.getD g.L d.I.toNat [])) - D.I (List.getD (List.getD g.L (Int.toNat (IntKind.wrap IntKind.i64 (d.I + (1 : Int)))) []) (0 + 1 + 1 + 1 + 1 + 1 + 1) default))) != D.I (List.getD (List.getD l.L d.I.toNat []) 0 default)) (T.need (decide ((0 : Int) ≤ d.I ∧ d.I < (h.I.toNat : Int))) (T.need (decide (d.I.toNat < l.L.length)) (T.leaf (Rd.again [D.l a.L, D.i b.I, D.b false, D.i (IntKind.wrap IntKind.i64 (d.I + (1 : Int))), D.i e.I, D.i f.I, D.l g.L, D.i (h.I.toNat : Int), D.i (i.I.toNat : Int), D.i (j.I.toNat : Int), D.i (k.I.toNat : Int), D.l (List.set l.L d.I.toNat (updC (List.getD l.L d.I.toNat []) [D.i (maxI (maxI (maxI (D.I (List.getD (List.getD l.L d.I.toNat []) 0 default)) (IntKind.wrap IntKind.i64 (IntKind.wrap IntKind.i64 (IntKind.wrap IntKind.i64 (D.I (List.getD (List.getD l.L (Int.toNat (IntKind.wrap IntKind.i64 (d.I - (1 : Int)))) []) 0 default) + D.I (List.getD (List.getD g.L (Int.toNat (IntKind.wrap IntKind.i64 (d.I - (1 : Int)))) []) 0 default)) + spanF e.I (List.getD g.L (Int.toNat (IntKind.wrap IntKind.i64 (d.I - (1 : Int)))) [])) + D.I (List.getD (List.getD g.L d.I.toNat []) (0 + 1 + 1 + 1 + 1 + 1) default)))) (IntKind.wrap IntKind.i64 ((0 : Int) + D.I (List.getD (List.getD g.L d.I.toNat []) (0 + 1) default)))) (IntKind.wrap IntKind.i64 (IntKind.wrap IntKind.i64 (IntKind.wrap IntKind.i64 (D.I (List.getD (List.getD l.L (Int.toNat (IntKind.wrap IntKind.i64 (d.I + (1 : Int)))) []) 0 default) - D.I (List.getD (List.getD g.L d.I.toNat []) 0 default)) - spanF e.I (List.getD g.L d.I.toNat [])) - D.I (List.getD (List.getD g.L (Int.toNat (IntKind.wrap IntKind.i64 (d.I + (1 : Int)))) []) (0 + 1 + 1 + 1 + 1 + 1 + 1) default))))] 0 0 (List.length [K.int IntKind.i64]))), D.l m.L, D.l n.L, D.l o.L])))) (T.leaf (Rd.again [D.l a.L, D.i b.I, D.b c.B, D.i (IntKind.wrap IntKind.i64 (d.I + (1 : Int))), D.i e.I, D.i f.I, D.l g.L, D.i (h.I.toNat : Int), D.i (i.I.toNat : Int), D.i (j.I.toNat : Int), D.i (k.I.toNat : Int), D.l l.L, D.l m.L, D.l n.L, D.l o.L])))))))) (T.ite (decide (maxI (maxI (maxI (D.I (List.getD (List.getD l.L d.I.toNat []) 0 default)) (IntKind.wrap IntKind.i64 (IntKind.wrap IntKind.i64 (IntKind.wrap IntKind.i64 (D.I (List.getD (List.getD l.L (Int.toNat (IntKind.wrap IntKind.i64 (d.I - (1 : Int)))) []) 0 default) + D.I (List.getD (List.getD g.L (Int.toNat (IntKind.wrap IntKind.i64 (d.I - (1 : Int)))) []) 0 default)) + spanF e.I (List.getD g.L (Int.toNat (IntKind.wrap IntKind.i64 (d.I - (1 : Int)))) [])) + D.I (List.getD (List.getD g.L d.I.toNat []) (0 + 1 + 1 + 1 + 1 + 1) default)))) (IntKind.wrap IntKind.i64 ((0 : Int) + D.I (List.getD (List.getD g.L d.I.toNat []) (0 + 1) default)))) (IntKind.wrap IntKind.i64 (D.I (List.getD (List.getD l.L (Int.toNat (IntKind.wrap IntKind.i64 (d.I + (1 : Int)))) []) 0 default) - D.I (List.getD (List.getD g.L d.I.toNat []) 0 default))) > (1000000000 : Int))) T.fail (T.need (decide ((0 : Int) ≤ d.I ∧ d.I < (h.I.toNat : Int))) (T.need (decide (d.I.toNat < l.L.length)) (T.ite (maxI (maxI (maxI (D.I (List.getD (List.getD l.L d.I.toNat []) 0 default)) (IntKind.wrap IntKind.i64 (IntKind.wrap IntKind.i64 (IntKind.wrap IntKind.i64 (D.I (List.getD (List.getD l.L (Int.toNat (IntKind.wrap IntKind.i64 (d.I - (1 : Int)))) []) 0 default) + D.I (List.getD (List.getD g.L (Int.toNat (IntKind.wrap IntKind.i64 (d.I - (1 : Int)))) []) 0 default)) + spanF e.I (List.getD g.L (Int.toNat (IntKind.wrap IntKind.i64 (d.I - (1 : Int)))) [])) + D.I (List.getD (List.getD g.L d.I.toNat []) (0 + 1 + 1 + 1 + 1 + 1) default)))) (IntKind.wrap IntKind.i64 ((0 : Int) + D.I (List.getD (List.getD g.L d.I.toNat []) (0 + 1) default)))) (IntKind.wrap IntKind.i64 (D.I (List.getD (List.getD l.L (Int.toNat (IntKind.wrap IntKind.i64 (d.I + (1 : Int)))) []) 0 default) - D.I (List.getD (List.getD g.L d.I.toNat []) 0 default))) != D.I (List.getD (List.getD l.L d.I.toNat []) 0 default)) (T.need (decide ((0 : Int) ≤ d.I ∧ d.I < (h.I.toNat : Int))) (T.need (decide (d.I.toNat < l.L.length)) (T.leaf (Rd.again [D.l a.L, D.i b.I, D.b false, D.i (IntKind.wrap IntKind.i64 (d.I + (1 : Int))), D.i e.I, D.i f.I, D.l g.L, D.i (h.I.toNat : Int), D.i (i.I.toNat : Int), D.i (j.I.toNat : Int), D.i (k.I.toNat : Int), D.l (List.set l.L d.I.toNat (updC (List.getD l.L d.I.toNat []) [D.i (maxI (maxI (maxI (D.I (List.getD (List.getD l.L d.I.toNat []) 0 default)) (IntKind.wrap IntKind.i64 (IntKind.wrap IntKind.i64 (IntKind.wrap IntKind.i64 (D.I (List.getD (List.getD l.L (Int.toNat (IntKind.wrap IntKind.i64 (d.I - (1 : Int)))) []) 0 default) + D.I (List.getD (List.getD g.L (Int.toNat (IntKind.wrap IntKind.i64 (d.I - (1 : Int)))) []) 0 default)) + spanF e.I (List.getD g.L (Int.toNat (IntKind.wrap IntKind.i64 (d.I - (1 : Int)))) [])) + D.I (List.getD (List.getD g.L d.I.toNat []) (0 + 1 + 1 + 1 + 1 + 1) default)))) (IntKind.wrap IntKind.i64 ((0 : Int) + D.I (List.getD (List.getD g.L d.I.toNat []) (0 + 1) default)))) (IntKind.wrap IntKind.i64 (D.I (List.getD (List.getD l.L (Int.toNat (IntKind.wrap IntKind.i64 (d.I + (1 : Int)))) []) 0 default) - D.I (List.getD (List.getD g.L d.I.toNat []) 0 default))))] 0 0 (List.length [K.int IntKind.i64]))), D.l m.L, D.l n.L, D.l o.L])))) (T.leaf (Rd.again [D.l a.L, D.i b.I, D.b c.B, D.i (IntKind.wrap IntKind.i64 (d.I + (1 : Int))), D.i e.I, D.i f.I, D.l g.L, D.i (h.I.toNat : Int), D.i (i.I.toNat : Int), D.i (j.I.toNat : Int), D.i (k.I.toNat : Int), D.l l.L, D.l m.L, D.l n.L, D.l o.L])))))))) (T.ite (decide (maxI (maxI (maxI (D.I (List.getD (List.getD l.L d.I.toNat []) 0 default)) (IntKind.wrap IntKind.i64 (IntKind.wrap IntKind.i64 (IntKind.wrap IntKind.i64 (D.I (List.getD (List.getD l.L (Int.toNat (IntKind.wrap IntKind.i64 (d.I - (1 : Int)))) []) 0 default) + D.I (List.getD (List.getD g.L (Int.toNat (IntKind.wrap IntKind.i64 (d.I - (1 : Int)))) []) 0 default)) + spanF e.I (List.getD g.L (Int.toNat (IntKind.wrap IntKind.i64 (d.I - (1 : Int)))) [])) + D.I (List.getD (List.getD g.L d.I.toNat []) (0 + 1 + 1 + 1 + 1 + 1) default)))) (IntKind.wrap IntKind.i64 ((0 : Int) + D.I (List.getD (List.getD g.L d.I.toNat []) (0 + 1) default)))) (IntKind.wrap IntKind.i64 (D.I (List.getD (List.getD l.L (Int.toNat (IntKind.wrap IntKind.i64 (d.I + (1 : Int)))) []) 0 default) - D.I (List.getD (List.getD g.L d.I.toNat []) 0 default))) > (1000000000 : Int))) T.fail (T.need (decide ((0 : Int) ≤ d.I ∧ d.I < (h.I.toNat : Int))) (T.need (decide (d.I.toNat < l.L.length)) (T.ite (maxI (maxI (maxI (D.I (List.getD (List.getD l.L d.I.toNat []) 0 default)) (IntKind.wrap IntKind.i64 (IntKind.wrap IntKind.i64 (IntKind.wrap IntKind.i64 (D.I (List.getD (List.getD l.L (Int.toNat (IntKind.wrap IntKind.i64 (d.I - (1 : Int)))) []) 0 default) + D.I (List.getD (List.getD g.L (Int.toNat (IntKind.wrap IntKind.i64 (d.I - (1 : Int)))) []) 0 default)) + spanF e.I (List.getD g.L (Int.toNat (IntKind.wrap IntKind.i64 (d.I - (1 : Int)))) [])) + D.I (List.getD (List.getD g.L d.I.toNat []) (0 + 1 + 1 + 1 + 1 + 1) default)))) (IntKind.wrap IntKind.i64 ((0 : Int) + D.I (List.getD (List.getD g.L d.I.toNat []) (0 + 1) default)))) (IntKind.wrap IntKind.i64 (D.I (List.getD (List.getD l.L (Int.toNat (IntKind.wrap IntKind.i64 (d.I + (1 : Int)))) []) 0 default) - D.I (List.getD (List.getD g.L d.I.toNat []) 0 default))) != D.I (List.getD (List.getD l.L d.I.toNat []) 0 default)) (T.need (decide ((0 : Int) ≤ d.I ∧ d.I < (h.I.toNat : Int))) (T.need (decide (d.I.toNat < l.L.length)) (T.leaf (Rd.again [D.l a.L, D.i b.I, D.b false, D.i (IntKind.wrap IntKind.i64 (d.I + (1 : Int))), D.i e.I, D.i f.I, D.l g.L, D.i (h.I.toNat : Int), D.i (i.I.toNat : Int), D.i (j.I.toNat : Int), D.i (k.I.toNat : Int), D.l (List.set l.L d.I.toNat (updC (List.getD l.L d.I.toNat []) [D.i (maxI (maxI (maxI (D.I (List.getD (List.getD l.L d.I.toNat []) 0 default)) (IntKind.wrap IntKind.i64 (IntKind.wrap IntKind.i64 (IntKind.wrap IntKind.i64 (D.I (List.getD (List.getD l.L (Int.toNat (IntKind.wrap IntKind.i64 (d.I - (1 : Int)))) []) 0 default) + D.I (List.getD (List.getD g.L (Int.toNat (IntKind.wrap IntKind.i64 (d.I - (1 : Int)))) []) 0 default)) + spanF e.I (List.getD g.L (Int.toNat (IntKind.wrap IntKind.i64 (d.I - (1 : Int)))) [])) + D.I (List.getD (List.getD g.L d.I.toNat []) (0 + 1 + 1 + 1 + 1 + 1) default)))) (IntKind.wrap IntKind.i64 ((0 : Int) + D.I (List.getD (List.getD g.L d.I.toNat []) (0 + 1) default)))) (IntKind.wrap IntKind.i64 (D.I (List.getD (List.getD l.L (Int.toNat (IntKind.wrap IntKind.i64 (d.I + (1 : Int)))) []) 0 default) - D.I (List.getD (List.getD g.L d.I.toNat []) 0 default))))] 0 0 (List.length [K.int IntKind.i64]))), D.l m.L, D.l n.L, D.l o.L])))) (T.leaf (Rd.again [D.l a.L, D.i b.I, D.b c.B, D.i (IntKind.wrap IntKind.i64 (d.I + (1 : Int))), D.i e.I, D.i f.I, D.l g.L, D.i (h.I.toNat : Int), D.i (i.I.toNat : Int), D.i (j.I.toNat : Int), D.i (k.I.toNat : Int), D.l l.L, D.l m.L, D.l n.L, D.l o.L])))))))))) (T.elseT (T.needT (T.elseT (T.needT (T.thenT (T.needT (T.needT (T.thenT (T.needT (T.thenT (T.needT (T.needT (T.needT (T.thenT (T.needT (T.needT (T.thenT (roundT C tab72 (72 : FuncId) (loopOf C.P (72 : FuncId) 8) l72_8 [a, b, c, d, e, f, g, h, i, j, k, l, m, n, o])))))))))))))))))))))) (T.elseT (T.needT (T.needT (T.thenT (T.needT (T.thenT (T.needT (T.needT (T.needT (T.thenT (T.needT (T.needT (T.thenT (roundT C tab72 (72 : FuncId) (loopOf C.P (72 : FuncId) 8) l72_8 [a, b, c, d, e, f, g, h, i, j, k, l, m, n, o]))))))))))))))))) (T.ite (decide (d.I < b.I)) (T.need (decide ((0 : Int) ≤ d.I ∧ d.I < (a.L.length : Int))) (T.ite (decide (D.I (List.getD (List.getD a.L d.I.toNat []) 0 default) ≥ (0 : Int))) (T.need (decide ((0 : Int) ≤ d.I ∧ d.I < (g.L.length : Int))) (T.need (decide ((0 : Int) ≤ d.I ∧ d.I < (a.L.length : Int))) (T.need (decide ((0 : Int) ≤ D.I (List.getD (List.getD a.L d.I.toNat []) 0 default) ∧ D.I (List.getD (List.getD a.L d.I.toNat []) 0 default) < (↑(List.length (D.L (List.getD (List.getD g.L d.I.toNat []) (0 + 1 + 1 + 1 + 1 + 1 + 1 + 1) default))) : Int))) (T.need (decide ((0 : Int) ≤ d.I ∧ d.I < (g.L.length : Int))) (T.ite (decide (d.I < b.I)) (T.need (decide ((0 : Int) ≤ IntKind.wrap IntKind.i64 (d.I + (1 : Int)) ∧ IntKind.wrap IntKind.i64 (d.I + (1 : Int)) < (h.I.toNat : Int))) (T.need (decide (Int.toNat (IntKind.wrap IntKind.i64 (d.I + (1 : Int))) < l.L.length)) (T.need (decide ((0 : Int) ≤ d.I ∧ d.I < (g.L.length : Int))) (T.ite (decide (IntKind.wrap IntKind.i64 (d.I + (1 : Int)) < b.I)) (T.need (decide ((0 : Int) ≤ IntKind.wrap IntKind.i64 (d.I + (1 : Int)) ∧ IntKind.wrap IntKind.i64 (d.I + (1 : Int)) < (g.L.length : Int))) (T.ite (D.B (List.getD (List.getD g.L (Int.toNat (IntKind.wrap IntKind.i64 (d.I + (1 : Int)))) []) (0 + 1 + 1 + 1 + 1) default)) (T.need (yes (planB e.I f.I g.L = true ∧ (0 : Int) ≤ d.I ∧ d.I < (g.L.length : Int))) (T.need (decide ((0 : Int) ≤ IntKind.wrap IntKind.i64 (d.I + (1 : Int)) ∧ IntKind.wrap IntKind.i64 (d.I + (1 : Int)) < (g.L.length : Int))) (T.ite (decide (maxI (maxI (maxI (D.I (List.getD (List.getD l.L d.I.toNat []) 0 default)) (IntKind.wrap IntKind.i64 (D.I (List.getD (List.getD l.L (Int.toNat (IntKind.wrap IntKind.i64 (d.I - (1 : Int)))) []) 0 default) + D.I (List.getD (List.getD g.L (Int.toNat (IntKind.wrap IntKind.i64 (d.I - (1 : Int)))) []) 0 default)))) (IntKind.wrap IntKind.i64 (D.I (List.getD (List.getD (D.L (List.getD (List.getD g.L d.I.toNat []) (0 + 1 + 1 + 1 + 1 + 1 + 1 + 1) default)) (Int.toNat (D.I (List.getD (List.getD a.L d.I.toNat []) 0 default))) []) 0 default) + D.I (List.getD (List.getD g.L d.I.toNat []) (0 + 1) default)))) (IntKind.wrap IntKind.i64 (IntKind.wrap IntKind.i64 (IntKind.wrap IntKind.i64 (D.I (List.getD (List.getD l.L (Int.toNat (IntKind.wrap IntKind.i64 (d.I + (1 : Int)))) []) 0 default) - D.I (List.getD (List.getD g.L d.I.toNat []) 0 default)) - spanF e.I (List.getD g.L d.I.toNat [])) - D.I (List.getD (List.getD g.L (Int.toNat (IntKind.wrap IntKind.i64 (d.I + (1 : Int)))) []) (0 + 1 + 1 + 1 + 1 + 1 + 1) default))) > (1000000000 : Int))) T.fail (T.need (decide ((0 : Int) ≤ d.I ∧ d.I < (h.I.toNat : Int))) (T.need (decide (d.I.toNat < l.L.length)) (T.ite (maxI (maxI (maxI (D.I (List.getD (List.getD l.L d.I.toNat []) 0 default)) (IntKind.wrap IntKind.i64 (D.I (List.getD (List.getD l.L (Int.toNat (IntKind.wrap IntKind.i64 (d.I - (1 : Int)))) []) 0 default) + D.I (List.getD (List.getD g.L (Int.toNat (IntKind.wrap IntKind.i64 (d.I - (1 : Int)))) []) 0 default)))) (IntKind.wrap IntKind.i64 (D.I (List.getD (List.getD (D.L (List.getD (List.getD g.L d.I.toNat []) (0 + 1 + 1 + 1 + 1 + 1 + 1 + 1) default)) (Int.toNat (D.I (List.getD (List.getD a.L d.I.toNat []) 0 default))) []) 0 default) + D.I (List.getD (List.getD g.L d.I.toNat []) (0 + 1) default)))) (IntKind.wrap IntKind.i64 (IntKind.wrap IntKind.i64 (IntKind.wrap IntKind.i64 (D.I (List.getD (List.getD l.L (Int.toNat (IntKind.wrap IntKind.i64 (d.I + (1 : Int)))) []) 0 default) - D.I (List.getD (List.getD g.L d.I.toNat []) 0 default)) - spanF e.I (List.getD g.L d.I.toNat [])) - D.I (List.getD (List.getD g.L (Int.toNat (IntKind.wrap IntKind.i64 (d.I + (1 : Int)))) []) (0 + 1 + 1 + 1 + 1 + 1 + 1) default))) != D.I (List.getD (List.getD l.L d.I.toNat []) 0 default)) (T.need (decide ((0 : Int) ≤ d.I ∧ d.I < (h.I.toNat : Int))) (T.need (decide (d.I.toNat < l.L.length)) (T.leaf (Rd.again [D.l a.L, D.i b.I, D.b false, D.i (IntKind.wrap IntKind.i64 (d.I + (1 : Int))), D.i e.I, D.i f.I, D.l g.L, D.i (h.I.toNat : Int), D.i (i.I.toNat : Int), D.i (j.I.toNat : Int), D.i (k.I.toNat : Int), D.l (List.set l.L d.I.toNat (updC (List.getD l.L d.I.toNat []) [D.i (maxI (maxI (maxI (D.I (List.getD (List.getD l.L d.I.toNat []) 0 default)) (IntKind.wrap IntKind.i64 (D.I (List.getD (List.getD l.L (Int.toNat (IntKind.wrap IntKind.i64 (d.I - (1 : Int)))) []) 0 default) + D.I (List.getD (List.getD g.L (Int.toNat (IntKind.wrap IntKind.i64 (d.I - (1 : Int)))) []) 0 default)))) (IntKind.wrap IntKind.i64 (D.I (List.getD (List.getD (D.L (List.getD (List.getD g.L d.I.toNat []) (0 + (1 : Nat) + (1 : Nat) + 1 + 1 + 1 + 1 + 1) default)) (Int.toNat (D.I (List.getD (List.getD a.L d.I.toNat []) 0 default))) []) 0 default) + D.I (List.getD (List.getD g.L d.I.toNat []) (0 + 1) default)))) (IntKind.wrap IntKind.i64 (IntKind.wrap IntKind.i64 (IntKind.wrap IntKind.i64 (D.I (List.getD (List.getD l.L (Int.toNat (IntKind.wrap IntKind.i64 (d.I + (1 : Int)))) []) 0 default) - D.I (List.getD (List.getD g.L d.I.toNat []) 0 default)) - spanF e.I (List.getD g.L d.I.toNat [])) - D.I (List.getD (List.getD g.L (Int.toNat (IntKind.wrap IntKind.i64 (d.I + (1 : Int)))) []) (0 + 1 + 1 + 1 + 1 + 1 + 1) default))))] 0 0 (List.length [K.int IntKind.i64]))), D.l m.L, D.l n.L, D.l o.L])))) (T.leaf (Rd.again [D.l a.L, D.i b.I, D.b c.B, D.i (IntKind.wrap IntKind.i64 (d.I + (1 : Int))), D.i e.I, D.i f.I, D.l g.L, D.i (h.I.toNat : Int), D.i (i.I.toNat : Int), D.i (j.I.toNat : Int), D.i (k.I.toNat : Int), D.l l.L, D.l m.L, D.l n.L, D.l o.L])))))))) (T.ite (decide (maxI (maxI (maxI (D.I (List.getD (List.getD l.L d.I.toNat []) 0 default)) (IntKind.wrap IntKind.i64 (D.I (List.getD (List.getD l.L (Int.toNat (IntKind.wrap IntKind.i64 (d.I - (1 : Int)))) []) 0 default) + D.I (List.getD (List.getD g.L (Int.toNat (IntKind.wrap IntKind.i64 (d.I - (1 : Int)))) []) 0 default)))) (IntKind.wrap IntKind.i64 (D.I (List.getD (List.getD (D.L (List.getD (List.getD g.L d.I.toNat []) (0 + 1 + 1 + 1 + 1 + 1 + 1 + 1) default)) (Int.toNat (D.I (List.getD (List.getD a.L d.I.toNat []) 0 default))) []) 0 default) + D.I (List.getD (List.getD g.L d.I.toNat []) (0 + 1) default)))) (IntKind.wrap IntKind.i64 (D.I (List.getD (List.getD l.L (Int.toNat (IntKind.wrap IntKind.i64 (d.I + (1 : Int)))) []) 0 default) - D.I (List.getD (List.getD g.L d.I.toNat []) 0 default))) > (1000000000 : Int))) T.fail (T.need (decide ((0 : Int) ≤ d.I ∧ d.I < (h.I.toNat : Int))) (T.need (decide (d.I.toNat < l.L.length)) (T.ite (maxI (maxI (maxI (D.I (List.getD (List.getD l.L d.I.toNat []) 0 default)) (IntKind.wrap IntKind.i64 (D.I (List.getD (List.getD l.L (Int.toNat (IntKind.wrap IntKind.i64 (d.I - (1 : Int)))) []) 0 default) + D.I (List.getD (List.getD g.L (Int.toNat (IntKind.wrap IntKind.i64 (d.I - (1 : Int)))) []) 0 default)))) (IntKind.wrap IntKind.i64 (D.I (List.getD (List.getD (D.L (List.getD (List.getD g.L d.I.toNat []) (0 + 1 + 1 + 1 + 1 + 1 + 1 + 1) default)) (Int.toNat (D.I (List.getD (List.getD a.L d.I.toNat []) 0 default))) []) 0 default) + D.I (List.getD (List.getD g.L d.I.toNat []) (0 + 1) default)))) (IntKind.wrap IntKind.i64 (D.I (List.getD (List.getD l.L (Int.toNat (IntKind.wrap IntKind.i64 (d.I + (1 : Int)))) []) 0 default) - D.I (List.getD (List.getD g.L d.I.toNat []) 0 default))) != D.I (List.getD (List.getD l.L d.I.toNat []) 0 default)) (T.need (decide ((0 : Int) ≤ d.I ∧ d.I < (h.I.toNat : Int))) (T.need (decide (d.I.toNat < l.L.length)) (T.leaf (Rd.again [D.l a.L, D.i b.I, D.b false, D.i (IntKind.wrap IntKind.i64 (d.I + (1 : Int))), D.i e.I, D.i f.I, D.l g.L, D.i (h.I.toNat : Int), D.i (i.I.toNat : Int), D.i (j.I.toNat : Int), D.i (k.I.toNat : Int), D.l (List.set l.L d.I.toNat (updC (List.getD l.L d.I.toNat []) [D.i (maxI (maxI (maxI (D.I (List.getD (List.getD l.L d.I.toNat []) 0 default)) (IntKind.wrap IntKind.i64 (D.I (List.getD (List.getD l.L (Int.toNat (IntKind.wrap IntKind.i64 (d.I - (1 : Int)))) []) 0 default) + D.I (List.getD (List.getD g.L (Int.toNat (IntKind.wrap IntKind.i64 (d.I - (1 : Int)))) []) 0 default)))) (IntKind.wrap IntKind.i64 (D.I (List.getD (List.getD (D.L (List.getD (List.getD g.L d.I.toNat []) (0 + 1 + 1 + 1 + 1 + 1 + 1 + 1) default)) (Int.toNat (D.I (List.getD (List.getD a.L d.I.toNat []) 0 default))) []) 0 default) + D.I (List.getD (List.getD g.L d.I.toNat []) (0 + 1) default)))) (IntKind.wrap IntKind.i64 (D.I (List.getD (List.getD l.L (Int.toNat (IntKind.wrap IntKind.i64 (d.I + (1 : Int)))) []) 0 default) - D.I (List.getD (List.getD g.L d.I.toNat []) 0 default))))] 0 0 (List.length [K.int IntKind.i64]))), D.l m.L, D.l n.L, D.l o.L])))) (T.leaf (Rd.again [D.l a.L, D.i b.I, D.b c.B, D.i (IntKind.wrap IntKind.i64 (d.I + (1 : Int))), D.i e.I, D.i f.I, D.l g.L, D.i (h.I.toNat : Int), D.i (i.I.toNat : Int), D.i (j.I.toNat : Int), D.i (k.I.toNat : Int), D.l l.L, D.l m.L, D.l n.L, D.l o.L])))))))) (T.ite (decide (maxI (maxI (maxI (D.I (List.getD (List.getD l.L d.I.toNat []) 0 default)) (IntKind.wrap IntKind.i64 (D.I (List.getD (List.getD l.L (Int.toNat (IntKind.wrap IntKind.i64 (d.I - (1 : Int)))) []) 0 default) + D.I (List.getD (List.getD g.L (Int.toNat (IntKind.wrap IntKind.i64 (d.I - (1 : Int)))) []) 0 default)))) (IntKind.wrap IntKind.i64 (D.I (List.getD (List.getD (D.L (List.getD (List.getD g.L d.I.toNat []) (0 + 1 + 1 + 1 + 1 + 1 + 1 + 1) default)) (Int.toNat (D.I (List.getD (List.getD a.L d.I.toNat []) 0 default))) []) 0 default) + D.I (List.getD (List.getD g.L d.I.toNat []) (0 + 1) default)))) (IntKind.wrap IntKind.i64 (D.I (List.getD (List.getD l.L (Int.toNat (IntKind.wrap IntKind.i64 (d.I + (1 : Int)))) []) 0 default) - D.I (List.getD (List.getD g.L d.I.toNat []) 0 default))) > (1000000000 : Int))) T.fail (T.need (decide ((0 : Int) ≤ d.I ∧ d.I < (h.I.toNat : Int))) (T.need (decide (d.I.toNat < l.L.length)) (T.ite (maxI (maxI (maxI (D.I (List.getD (List.getD l.L d.I.toNat []) 0 default)) (IntKind.wrap IntKind.i64 (D.I (List.getD (List.getD l.L (Int.toNat (IntKind.wrap IntKind.i64 (d.I - (1 : Int)))) []) 0 default) + D.I (List.getD (List.getD g.L (Int.toNat (IntKind.wrap IntKind.i64 (d.I - (1 : Int)))) []) 0 default)))) (IntKind.wrap IntKind.i64 (D.I (List.getD (List.getD (D.L (List.getD (List.getD g.L d.I.toNat []) (0 + 1 + 1 + 1 + 1 + 1 + 1 + 1) default)) (Int.toNat (D.I (List.getD (List.getD a.L d.I.toNat []) 0 default))) []) 0 default) + D.I (List.getD (List.getD g.L d.I.toNat []) (0 + 1) default)))) (IntKind.wrap IntKind.i64 (D.I (List.getD (List.getD l.L (Int.toNat (IntKind.wrap IntKind.i64 (d.I + (1 : Int)))) []) 0 default) - D.I (List.getD (List.getD g.L d.I.toNat []) 0 default))) != D.I (List.getD (List.getD l.L d.I.toNat []) 0 default)) (T.need (decide ((0 : Int) ≤ d.I ∧ d.I < (h.I.toNat : Int))) (T.need (decide (d.I.toNat < l.L.length)) (T.leaf (Rd.again [D.l a.L, D.i b.I, D.b false, D.i (IntKind.wrap IntKind.i64 (d.I + (1 : Int))), D.i e.I, D.i f.I, D.l g.L, D.i (h.I.toNat : Int), D.i (i.I.toNat : Int), D.i (j.I.toNat : Int), D.i (k.I.toNat : Int), D.l (List.set l.L d.I.toNat (updC (List.getD l.L d.I.toNat []) [D.i (maxI (maxI (maxI (D.I (List.getD (List.getD l.L d.I.toNat []) 0 default)) (IntKind.wrap IntKind.i64 (D.I (List.getD (List.getD l.L (Int.toNat (IntKind.wrap IntKind.i64 (d.I - (1 : Int)))) []) 0 default) + D.I (List.getD (List.getD g.L (Int.toNat (IntKind.wrap IntKind.i64 (d.I - (1 : Int)))) []) 0 default)))) (IntKind.wrap IntKind.i64 (D.I (List.getD (List.getD (D.L (List.getD (List.getD g.L d.I.toNat []) (0 + 1 + 1 + 1 + 1 + 1 + 1 + 1) default)) (Int.toNat (D.I (List.getD (List.getD a.L d.I.toNat []) 0 default))) []) 0 default) + D.I (List.getD (List.getD g.L d.I.toNat []) (0 + 1) default)))) (IntKind.wrap IntKind.i64 (D.I (List.getD (List.getD l.L (Int.toNat (IntKind.wrap IntKind.i64 (d.I + (1 : Int)))) []) 0 default) - D.I (List.getD (List.getD g.L d.I.toNat []) 0 default))))] 0 0 (List.length [K.int IntKind.i64]))), D.l m.L, D.l n.L, D.l o.L])))) (T.leaf (Rd.again [D.l a.L, D.i b.I, D.b c.B, D.i (IntKind.wrap IntKind.i64 (d.I + (1 : Int))), D.i e.I, D.i f.I, D.l g.L, D.i (h.I.toNat : Int), D.i (i.I.toNat : Int), D.i (j.I.toNat : Int), D.i (k.I.toNat : Int), D.l l.L, D.l m.L, D.l n.L, D.l o.L])))))))))) (T.elseT (T.needT (T.needT (T.needT (T.needT (T.thenT (T.needT (T.thenT (T.elseT (T.needT (T.thenT (T.needT (T.needT (T.needT (T.thenT (T.needT (T.needT (T.thenT (roundT C tab72 (72 : FuncId) (loopOf C.P (72 : FuncId) 8) l72_8 [a, b, c, d, e, f, g, h, i, j, k, l, m, n, o])))))))))))))))))))))))) (T.need (decide ((0 : Int) ≤ d.I ∧ d.I < (g.L.length : Int))) (T.ite (decide (d.I < b.I)) (T.need (decide ((0 : Int) ≤ IntKind.wrap IntKind.i64 (d.I + (1 : Int)) ∧ IntKind.wrap IntKind.i64 (d.I + (1 : Int)) < (h.I.toNat : Int))) (T.need (decide (Int.toNat (IntKind.wrap IntKind.i64 (d.I + (1 : Int))) < l.L.length)) (T.need (decide ((0 : Int) ≤ d.I ∧ d.I < (g.L.length : Int))) (T.ite (decide (IntKind.wrap IntKind.i64 (d.I + (1 : Int)) < b.I)) (T.need (decide ((0 : Int) ≤ IntKind.wrap IntKind.i64 (d.I + (1 : Int)) ∧ IntKind.wrap IntKind.i64 (d.I + (1 : Int)) < (g.L.length : Int))) (T.ite (D.B (List.getD (List.getD g.L (Int.toNat (IntKind.wrap IntKind.i64 (d.I + (1 : Int)))) []) (0 + 1 + 1 + 1 + 1) default)) (T.need (yes (planB e.I f.I g.L = true ∧ (0 : Int) ≤ d.I ∧ d.I < (g.L.length : Int))) (T.need (decide ((0 : Int) ≤ IntKind.wrap IntKind.i64 (d.I + (1 : Int)) ∧ IntKind.wrap IntKind.i64 (d.I + (1 : Int)) < (g.L.length : Int))) (T.ite (decide (maxI (maxI (maxI (D.I (List.getD (List.getD l.L d.I.toNat []) 0 default)) (IntKind.wrap IntKind.i64 (D.I (List.getD (List.getD l.L (Int.toNat (IntKind.wrap IntKind.i64 (d.I - (1 : Int)))) []) 0 default) + D.I (List.getD (List.getD g.L (Int.toNat (IntKind.wrap IntKind.i64 (d.I - (1 : Int)))) []) 0 default)))) (IntKind.wrap IntKind.i64 ((0 : Int) + D.I (List.getD (List.getD g.L d.I.toNat []) (0 + 1) default)))) (IntKind.wrap IntKind.i64 (IntKind.wrap IntKind.i64 (IntKind.wrap IntKind.i64 (D.I (List.getD (List.getD l.L (Int.toNat (IntKind.wrap IntKind.i64 (d.I + (1 : Int)))) []) 0 default) - D.I (List.getD (List.getD g.L d.I.toNat []) 0 default)) - spanF e.I (List.getD g.L d.I.toNat [])) - D.I (List.getD (List.getD g.L (Int.toNat (IntKind.wrap IntKind.i64 (d.I + (1 : Int)))) []) (0 + 1 + 1 + 1 + 1 + 1 + 1) default))) > (1000000000 : Int))) T.fail (T.need (decide ((0 : Int) ≤ d.I ∧ d.I < (h.I.toNat : Int))) (T.need (decide (d.I.toNat < l.L.length)) (T.ite (maxI (maxI (maxI (D.I (List.getD (List.getD l.L d.I.toNat []) 0 default)) (IntKind.wrap IntKind.i64 (D.I (List.getD (List.getD l.L (Int.toNat (IntKind.wrap IntKind.i64 (d.I - (1 : Int)))) []) 0 default) + D.I (List.getD (List.getD g.L (Int.toNat (IntKind.wrap IntKind.i64 (d.I - (1 : Int)))) []) 0 default)))) (IntKind.wrap IntKind.i64 ((0 : Int) + D.I (List.getD (List.getD g.L d.I.toNat []) (0 + 1) default)))) (IntKind.wrap IntKind.i64 (IntKind.wrap IntKind.i64 (IntKind.wrap IntKind.i64 (D.I (List.getD (List.getD l.L (Int.toNat (IntKind.wrap IntKind.i64 (d.I + (1 : Int)))) []) 0 default) - D.I (List.getD (List.getD g.L d.I.toNat []) 0 default)) - spanF e.I (List.getD g.L d.I.toNat [])) - D.I (List.getD (List.getD g.L (Int.toNat (IntKind.wrap IntKind.i64 (d.I + (1 : Int)))) []) (0 + 1 + 1 + 1 + 1 + 1 + 1) default))) != D.I (List.getD (List.getD l.L d.I.toNat []) 0 default)) (T.need (decide ((0 : Int) ≤ d.I ∧ d.I < (h.I.toNat : Int))) (T.need (decide (d.I.toNat < l.L.length)) (T.leaf (Rd.again [D.l a.L, D.i b.I, D.b false, D.i (IntKind.wrap IntKind.i64 (d.I + (1 : Int))), D.i e.I, D.i f.I, D.l g.L, D.i (h.I.toNat : Int), D.i (i.I.toNat : Int), D.i (j.I.toNat : Int), D.i (k.I.toNat : Int), D.l (List.set l.L d.I.toNat (updC (List.getD l.L d.I.toNat []) [D.i (maxI (maxI (maxI (D.I (List.getD (List.getD l.L d.I.toNat []) 0 default)) (IntKind.wrap IntKind.i64 (D.I (List.getD (List.getD l.L (Int.toNat (IntKind.wrap IntKind.i64 (d.I - (1 : Int)))) []) 0 default) + D.I (List.getD (List.getD g.L (Int.toNat (IntKind.wrap IntKind.i64 (d.I - (1 : Int)))) []) 0 default)))) (IntKind.wrap IntKind.i64 ((0 : Int) + D.I (List.getD (List.getD g.L d.I.toNat []) (0 + 1) default)))) (IntKind.wrap IntKind.i64 (IntKind.wrap IntKind.i64 (IntKind.wrap IntKind.i64 (D.I (List.getD (List.getD l.L (Int.toNat (IntKind.wrap IntKind.i64 (d.I + (1 : Int)))) []) 0 default) - D.I (List.getD (List.getD g.L d.I.toNat []) 0 default)) - spanF e.I (List.getD g.L d.I.toNat [])) - D.I (List.getD (List.getD g.L (Int.toNat (IntKind.wrap IntKind.i64 (d.I + (1 : Int)))) []) (0 + 1 + 1 + 1 + 1 + 1 + 1) default))))] 0 0 (List.length [K.int IntKind.i64]))), D.l m.L, D.l n.L, D.l o.L])))) (T.leaf (Rd.again [D.l a.L, D.i b.I, D.b c.B, D.i (IntKind.wrap IntKind.i64 (d.I + (1 : Int))), D.i e.I, D.i f.I, D.l g.L, D.i (h.I.toNat : Int), D.i (i.I.toNat : Int), D.i (j.I.toNat : Int), D.i (k.I.toNat : Int), D.l l.L, D.l m.L, D.l n.L, D.l o.L])))))))) (T.ite (decide (maxI (maxI (maxI (D.I (List.getD (List.getD l.L d.I.toNat []) 0 default)) (IntKind.wrap IntKind.i64 (D.I (List.getD (List.getD l.L (Int.toNat (IntKind.wrap IntKind.i64 (d.I - (1 : Int)))) []) 0 default) + D.I (List.getD (List.getD g.L (Int.toNat (IntKind.wrap IntKind.i64 (d.I - (1 : Int)))) []) 0 default)))) (IntKind.wrap IntKind.i64 ((0 : Int) + D.I (List.getD (List.getD g.L d.I.toNat []) (0 + 1) default)))) (IntKind.wrap IntKind.i64 (D.I (List.getD (List.getD l.L (Int.toNat (IntKind.wrap IntKind.i64 (d.I + (1 : Int)))) []) 0 default) - D.I (List.getD (List.getD g.L d.I.toNat []) 0 default))) > (1000000000 : Int))) T.fail (T.need (decide ((0 : Int) ≤ d.I ∧ d.I < (h.I.toNat : Int))) (T.need (decide (d.I.toNat < l.L.length)) (T.ite (maxI (maxI (maxI (D.I (List.getD (List.getD l.L d.I.toNat []) 0 default)) (IntKind.wrap IntKind.i64 (D.I (List.getD (List.getD l.L (Int.toNat (IntKind.wrap IntKind.i64 (d.I - (1 : Int)))) []) 0 default) + D.I (List.getD (List.getD g.L (Int.toNat (IntKind.wrap IntKind.i64 (d.I - (1 : Int)))) []) 0 default)))) (IntKind.wrap IntKind.i64 ((0 : Int) + D.I (List.getD (List.getD g.L d.I.toNat []) (0 + 1) default)))) (IntKind.wrap IntKind.i64 (D.I (List.getD (List.getD l.L (Int.toNat (IntKind.wrap IntKind.i64 (d.I + (1 : Int)))) []) 0 default) - D.I (List.getD (List.getD g.L d.I.toNat []) 0 default))) != D.I (List.getD (List.getD l.L d.I.toNat []) 0 default)) (T.need (decide ((0 : Int) ≤ d.I ∧ d.I < (h.I.toNat : Int))) (T.need (decide (d.I.toNat < l.L.length)) (T.leaf (Rd.again [D.l a.L, D.i b.I, D.b false, D.i (IntKind.wrap IntKind.i64 (d.I + (1 : Int))), D.i e.I, D.i f.I, D.l g.L, D.i (h.I.toNat : Int), D.i (i.I.toNat : Int), D.i (j.I.toNat : Int), D.i (k.I.toNat : Int), D.l (List.set l.L d.I.toNat (updC (List.getD l.L d.I.toNat []) [D.i (maxI (maxI (maxI (D.I (List.getD (List.getD l.L d.I.toNat []) 0 default)) (IntKind.wrap IntKind.i64 (D.I (List.getD (List.getD l.L (Int.toNat (IntKind.wrap IntKind.i64 (d.I - (1 : Int)))) []) 0 default) + D.I (List.getD (List.getD g.L (Int.toNat (IntKind.wrap IntKind.i64 (d.I - (1 : Int)))) []) 0 default)))) (IntKind.wrap IntKind.i64 ((0 : Int) + D.I (List.getD (List.getD g.L d.I.toNat []) (0 + 1) default)))) (IntKind.wrap IntKind.i64 (D.I (List.getD (List.getD l.L (Int.toNat (IntKind.wrap IntKind.i64 (d.I + (1 : Int)))) []) 0 default) - D.I (List.getD (List.getD g.L d.I.toNat []) 0 default))))] 0 0 (List.length [K.int IntKind.i64]))), D.l m.L, D.l n.L, D.l o.L])))) (T.leaf (Rd.again [D.l a.L, D.i b.I, D.b c.B, D.i (IntKind.wrap IntKind.i64 (d.I + (1 : Int))), D.i e.I, D.i f.I, D.l g.L, D.i (h.I.toNat : Int), D.i (i.I.toNat : Int), D.i (j.I.toNat : Int), D.i (k.I.toNat : Int), D.l l.L, D.l m.L, D.l n.L, D.l o.L])))))))) (T.ite (decide (maxI (maxI (maxI (D.I (List.getD (List.getD l.L d.I.toNat []) 0 default)) (IntKind.wrap IntKind.i64 (D.I (List.getD (List.getD l.L (Int.toNat (IntKind.wrap IntKind.i64 (d.I - (1 : Int)))) []) 0 default) + D.I (List.getD (List.getD g.L (Int.toNat (IntKind.wrap IntKind.i64 (d.I - (1 : Int)))) []) 0 default)))) (IntKind.wrap IntKind.i64 ((0 : Int) + D.I (List.getD (List.getD g.L d.I.toNat []) (0 + 1) default)))) (IntKind.wrap IntKind.i64 (D.I (List.getD (List.getD l.L (Int.toNat (IntKind.wrap IntKind.i64 (d.I + (1 : Int)))) []) 0 default) - D.I (List.getD (List.getD g.L d.I.toNat []) 0 default))) > (1000000000 : Int))) T.fail (T.need (decide ((0 : Int) ≤ d.I ∧ d.I < (h.I.toNat : Int))) (T.need (decide (d.I.toNat < l.L.length)) (T.ite (maxI (maxI (maxI (D.I (List.getD (List.getD l.L d.I.toNat []) 0 default)) (IntKind.wrap IntKind.i64 (D.I (List.getD (List.getD l.L (Int.toNat (IntKind.wrap IntKind.i64 (d.I - (1 : Int)))) []) 0 default) + D.I (List.getD (List.getD g.L (Int.toNat (IntKind.wrap IntKind.i64 (d.I - (1 : Int)))) []) 0 default)))) (IntKind.wrap IntKind.i64 ((0 : Int) + D.I (List.getD (List.getD g.L d.I.toNat []) (0 + 1) default)))) (IntKind.wrap IntKind.i64 (D.I (List.getD (List.getD l.L (Int.toNat (IntKind.wrap IntKind.i64 (d.I + (1 : Int)))) []) 0 default) - D.I (List.getD (List.getD g.L d.I.toNat []) 0 default))) != D.I (List.getD (List.getD l.L d.I.toNat []) 0 default)) (T.need (decide ((0 : Int) ≤ d.I ∧ d.I < (h.I.toNat : Int))) (T.need (decide (d.I.toNat < l.L.length)) (T.leaf (Rd.again [D.l a.L, D.i b.I, D.b false, D.i (IntKind.wrap IntKind.i64 (d.I + (1 : Int))), D.i e.I, D.i f.I, D.l g.L, D.i (h.I.toNat : Int), D.i (i.I.toNat : Int), D.i (j.I.toNat : Int), D.i (k.I.toNat : Int), D.l (List.set l.L d.I.toNat (updC (List.getD l.L d.I.toNat []) [D.i (maxI (maxI (maxI (D.I (List.getD (List.getD l.L d.I.toNat []) 0 default)) (IntKind.wrap IntKind.i64 (D.I (List.getD (List.getD l.L (Int.toNat (IntKind.wrap IntKind.i64 (d.I - (1 : Int)))) []) 0 default) + D.I (List.getD (List.getD g.L (Int.toNat (IntKind.wrap IntKind.i64 (d.I - (1 : Int)))) []) 0 default)))) (IntKind.wrap IntKind.i64 ((0 : Int) + D.I (List.getD (List.getD g.L d.I.toNat []) (0 + 1) default)))) (IntKind.wrap IntKind.i64 (D.I (List.getD (List.getD l.L (Int.toNat (IntKind.wrap IntKind.i64 (d.I + (1 : Int)))) []) 0 default) - D.I (List.getD (List.getD g.L d.I.toNat []) 0 default))))] 0 0 (List.length [K.int IntKind.i64]))), D.l m.L, D.l n.L, D.l o.L])))) (T.leaf (Rd.again [D.l a.L, D.i b.I, D.b c.B, D.i (IntKind.wrap IntKind.i64 (d.I + (1 : Int))), D.i e.I, D.i f.I, D.l g.L, D.i (h.I.toNat : Int), D.i (i.I.toNat : Int), D.i (j.I.toNat : Int), D.i (k.I.toNat : Int), D.l l.L, D.l m.L, D.l n.L, D.l o.L])))))))))) (T.elseT (T.needT (T.elseT (T.needT (T.thenT (T.elseT (T.needT (T.thenT (T.needT (T.needT (T.needT (T.thenT (T.needT (T.needT (T.thenT (roundT C tab72 (72 : FuncId) (loopOf C.P (72 : FuncId) 8) l72_8 [a, b, c, d, e, f, g, h, i, j, k, l, m, n, o])))))))))))))))))))) (T.elseT (T.elseT (T.needT (T.thenT (T.needT (T.needT (T.needT (T.thenT (T.needT (T.needT (T.thenT (roundT C tab72 (72 : FuncId) (loopOf C.P (72 : FuncId) 8) l72_8 [a, b, c, d, e, f, g, h, i, j, k, l, m, n, o]))))))))))))))) (T.ite (decide (d.I < b.I)) (T.thenT (T.elseT (T.needT (T.needT (T.needT (T.thenT (T.needT (T.needT (T.thenT (roundT C tab72 (72 : FuncId) (loopOf C.P (72 : FuncId) 8) l72_8 [a, b, c, d, e, f, g, h, i, j, k, l, m, n, o])))))))))) (T.ite (decide (d.I < b.I)) (T.thenT (T.elseT (T.elseT (T.needT (T.needT (T.needT (T.thenT (T.needT (T.needT (T.thenT (roundT C tab72 (72 : FuncId) (loopOf C.P (72 : FuncId) 8) l72_8 [a, b, c, d, e, f, g, h, i, j, k, l, m, n, o]))))))))))) (T.ite (decide (maxI (D.I (List.getD (List.getD l.L d.I.toNat []) 0 default)) (IntKind.wrap IntKind.i64 (D.I (List.getD (List.getD l.L (Int.toNat (IntKind.wrap IntKind.i64 (d.I - (1 : Int)))) []) 0 default) + D.I (List.getD (List.getD g.L (Int.toNat (IntKind.wrap IntKind.i64 (d.I - (1 : Int)))) []) 0 default))) > (1000000000 : Int))) T.fail (T.need (decide ((0 : Int) ≤ d.I ∧ d.I < (h.I.toNat : Int))) (T.need (decide (d.I.toNat < l.L.length)) (T.ite (maxI (D.I (List.getD (List.getD l.L d.I.toNat []) 0 default)) (IntKind.wrap IntKind.i64 (D.I (List.getD (List.getD l.L (Int.toNat (IntKind.wrap IntKind.i64 (d.I - (1 : Int)))) []) 0 default) + D.I (List.getD (List.getD g.L (Int.toNat (IntKind.wrap IntKind.i64 (d.I - (1 : Int)))) []) 0 default))) != D.I (List.getD (List.getD l.L d.I.toNat []) 0 default)) (T.need (decide ((0 : Int) ≤ d.I ∧ d.I < (h.I.toNat : Int))) (T.need (decide (d.I.toNat < l.L.length)) (T.leaf (Rd.again [D.l a.L, D.i b.I, D.b false, D.i (IntKind.wrap IntKind.i64 (d.I + (1 : Int))), D.i e.I, D.i f.I, D.l g.L, D.i (h.I.toNat : Int), D.i (i.I.toNat : Int), D.i (j.I.toNat : Int), D.i (k.I.toNat : Int), D.l (List.set l.L d.I.toNat (updC (List.getD l.L d.I.toNat []) [D.i (maxI (D.I (List.getD (List.getD l.L d.I.toNat []) 0 default)) (IntKind.wrap IntKind.i64 (D.I (List.getD (List.getD l.L (Int.toNat (IntKind.wrap IntKind.i64 (d.I - (1 : Int)))) []) 0 default) + D.I (List.getD (List.getD g.L (Int.toNat (IntKind.wrap IntKind.i64 (d.I - (1 : Int)))) []) 0 default))))] 0 0 (List.length [K.int IntKind.i64]))), D.l m.L, D.l n.L, D.l o.L])))) (T.leaf (Rd.again [D.l a.L, D.i b.I, D.b c.B, D.i (IntKind.wrap IntKind.i64 (d.I + (1 : Int))), D.i e.I, D.i f.I, D.l g.L, D.i (h.I.toNat : Int), D.i (i.I.toNat : Int), D.i (j.I.toNat : Int), D.i (k.I.toNat : Int), D.l l.L, D.l m.L, D.l n.L, D.l o.L])))))))))))) (T.ite (decide (d.I < b.I)) (T.need (decide ((0 : Int) ≤ d.I ∧ d.I < (a.L.length : Int))) (T.ite (decide (D.I (List.getD (List.getD a.L d.I.toNat []) 0 default) ≥ (0 : Int))) (T.need (decide ((0 : Int) ≤ d.I ∧ d.I < (g.L.length : Int))) (T.need (decide ((0 : Int) ≤ d.I ∧ d.I < (a.L.length : Int))) (T.need (decide ((0 : Int) ≤ D.I (List.getD (List.getD a.L d.I.toNat []) 0 default) ∧ D.I (List.getD (List.getD a.L d.I.toNat []) 0 default) < (↑(List.length (D.L (List.getD (List.getD g.L d.I.toNat []) (0 + 1 + 1 + 1 + 1 + 1 + 1 + 1) default))) : Int))) (T.need (decide ((0 : Int) ≤ d.I ∧ d.I < (g.L.length : Int))) (T.ite (decide (d.I < b.I)) (T.need (decide ((0 : Int) ≤ IntKind.wrap IntKind.i64 (d.I + (1 : Int)) ∧ IntKind.wrap IntKind.i64 (d.I + (1 : Int)) < (h.I.toNat : Int))) (T.need (decide (Int.toNat (IntKind.wrap IntKind.i64 (d.I + (1 : Int))) < l.L.length)) (T.need (decide ((0 : Int) ≤ d.I ∧ d.I < (g.L.length : Int))) (T.ite (decide (IntKind.wrap IntKind.i64 (d.I + (1 : Int)) < b.I)) (T.need (decide ((0 : Int) ≤ IntKind.wrap IntKind.i64 (d.I + (1 : Int)) ∧ IntKind.wrap IntKind.i64 (d.I + (1 : Int)) < (g.L.length : Int))) (T.ite (D.B (List.getD (List.getD g.L (Int.toNat (IntKind.wrap IntKind.i64 (d.I + (1 : Int)))) []) (0 + 1 + 1 + 1 + 1) default)) (T.need (yes (planB e.I f.I g.L = true ∧ (0 : Int) ≤ d.I ∧ d.I < (g.L.length : Int))) (T.need (decide ((0 : Int) ≤ IntKind.wrap IntKind.i64 (d.I + (1 : Int)) ∧ IntKind.wrap IntKind.i64 (d.I + (1 : Int)) < (g.L.length : Int))) (T.ite (decide (maxI (maxI (D.I (List.getD (List.getD l.L d.I.toNat []) 0 default)) (IntKind.wrap IntKind.i64 (D.I (List.getD (List.getD (D.L (List.getD (List.getD g.L d.I.toNat []) (0 + 1 + 1 + 1 + 1 + 1 + 1 + 1) default)) (Int.toNat (D.I (List.getD (List.getD a.L d.I.toNat []) 0 default))) []) 0 default) + D.I (List.getD (List.getD g.L d.I.toNat []) (0 + 1) default)))) (IntKind.wrap IntKind.i64 (IntKind.wrap IntKind.i64 (IntKind.wrap IntKind.i64 (D.I (List.getD (List.getD l.L (Int.toNat (IntKind.wrap IntKind.i64 (d.I + (1 : Int)))) []) 0 default) - D.I (List.getD (List.getD g.L d.I.toNat []) 0 default)) - spanF e.I (List.getD g.L d.I.toNat [])) - D.I (List.getD (List.getD g.L (Int.toNat (IntKind.wrap IntKind.i64 (d.I + (1 : Int)))) []) (0 + 1 + 1 + 1 + 1 + 1 + 1) default))) > (1000000000 : Int))) T.fail (T.need (decide ((0 : Int) ≤ d.I ∧ d.I < (h.I.toNat : Int))) (T.need (decide (d.I.toNat < l.L.length)) (T.ite (maxI (maxI (D.I (List.getD (List.getD l.L d.I.toNat []) 0 default)) (IntKind.wrap IntKind.i64 (D.I (List.getD (List.getD (D.L (List.getD (List.getD g.L d.I.toNat []) (0 + 1 + 1 + 1 + 1 + 1 + 1 + 1) default)) (Int.toNat (D.I (List.getD (List.getD a.L d.I.toNat []) 0 default))) []) 0 default) + D.I (List.getD (List.getD g.L d.I.toNat []) (0 + 1) default)))) (IntKind.wrap IntKind.i64 (IntKind.wrap IntKind.i64 (IntKind.wrap IntKind.i64 (D.I (List.getD (List.getD l.L (Int.toNat (IntKind.wrap IntKind.i64 (d.I + (1 : Int)))) []) 0 default) - D.I (List.getD (List.getD g.L d.I.toNat []) 0 default)) - spanF e.I (List.getD g.L d.I.toNat [])) - D.I (List.getD (List.getD g.L (Int.toNat (IntKind.wrap IntKind.i64 (d.I + (1 : Int)))) []) (0 + 1 + 1 + 1 + 1 + 1 + 1) default))) != D.I (List.getD (List.getD l.L d.I.toNat []) 0 default)) (T.need (decide ((0 : Int) ≤ d.I ∧ d.I < (h.I.toNat : Int))) (T.need (decide (d.I.toNat < l.L.length)) (T.leaf (Rd.again [D.l a.L, D.i b.I, D.b false, D.i (IntKind.wrap IntKind.i64 (d.I + (1 : Int))), D.i e.I, D.i f.I, D.l g.L, D.i (h.I.toNat : Int), D.i (i.I.toNat : Int), D.i (j.I.toNat : Int), D.i (k.I.toNat : Int), D.l (List.set l.L d.I.toNat (updC (List.getD l.L d.I.toNat []) [D.i (maxI (maxI (D.I (List.getD (List.getD l.L d.I.toNat []) 0 default)) (IntKind.wrap IntKind.i64 (D.I (List.getD (List.getD (D.L (List.getD (List.getD g.L d.I.toNat []) (0 + 1 + 1 + 1 + 1 + 1 + 1 + 1) default)) (Int.toNat (D.I (List.getD (List.getD a.L d.I.toNat []) 0 default))) []) 0 default) + D.I (List.getD (List.getD g.L d.I.toNat []) (0 + 1) default)))) (IntKind.wrap IntKind.i64 (IntKind.wrap IntKind.i64 (IntKind.wrap IntKind.i64 (D.I (List.getD (List.getD l.L (Int.toNat (IntKind.wrap IntKind.i64 (d.I + (1 : Int)))) []) 0 default) - D.I (List.getD (List.getD g.L d.I.toNat []) 0 default)) - spanF e.I (List.getD g.L d.I.toNat [])) - D.I (List.getD (List.getD g.L (Int.toNat (IntKind.wrap IntKind.i64 (d.I + (1 : Int)))) []) (0 + 1 + 1 + 1 + 1 + 1 + 1) default))))] 0 0 (List.length [K.int IntKind.i64]))), D.l m.L, D.l n.L, D.l o.L])))) (T.leaf (Rd.again [D.l a.L, D.i b.I, D.b c.B, D.i (IntKind.wrap IntKind.i64 (d.I + (1 : Int))), D.i e.I, D.i f.I, D.l g.L, D.i (h.I.toNat : Int), D.i (i.I.toNat : Int), D.i (j.I.toNat : Int), D.i (k.I.toNat : Int), D.l l.L, D.l m.L, D.l n.L, D.l o.L])))))))) (T.ite (decide (maxI (maxI (D.I (List.getD (List.getD l.L d.I.toNat []) 0 default)) (IntKind.wrap IntKind.i64 (D.I (List.getD (List.getD (D.L (List.getD (List.getD g.L d.I.toNat []) (0 + 1 + 1 + 1 + 1 + 1 + 1 + 1) default)) (Int.toNat (D.I (List.getD (List.getD a.L d.I.toNat []) 0 default))) []) 0 default) + D.I (List.getD (List.getD g.L d.I.toNat []) (0 + 1) default)))) (IntKind.wrap IntKind.i64 (D.I (List.getD (List.getD l.L (Int.toNat (IntKind.wrap IntKind.i64 (d.I + (1 : Int)))) []) 0 default) - D.I (List.getD (List.getD g.L d.I.toNat []) 0 default))) > (1000000000 : Int))) T.fail (T.need (decide ((0 : Int) ≤ d.I ∧ d.I < (h.I.toNat : Int))) (T.need (decide (d.I.toNat < l.L.length)) (T.ite (maxI (maxI (D.I (List.getD (List.getD l.L d.I.toNat []) 0 default)) (IntKind.wrap IntKind.i64 (D.I (List.getD (List.getD (D.L (List.getD (List.getD g.L d.I.toNat []) (0 + 1 + 1 + 1 + 1 + 1 + 1 + 1) default)) (Int.toNat (D.I (List.getD (List.getD a.L d.I.toNat []) 0 default))) []) 0 default) + D.I (List.getD (List.getD g.L d.I.toNat []) (0 + 1) default)))) (IntKind.wrap IntKind.i64 (D.I (List.getD (List.getD l.L (Int.toNat (IntKind.wrap IntKind.i64 (d.I + (1 : Int)))) []) 0 default) - D.I (List.getD (List.getD g.L d.I.toNat []) 0 default))) != D.I (List.getD (List.getD l.L d.I.toNat []) 0 default)) (T.need (decide ((0 : Int) ≤ d.I ∧ d.I < (h.I.toNat : Int))) (T.need (decide (d.I.toNat < l.L.length)) (T.leaf (Rd.again [D.l a.L, D.i b.I, D.b false, D.i (IntKind.wrap IntKind.i64 (d.I + (1 : Int))), D.i e.I, D.i f.I, D.l g.L, D.i (h.I.toNat : Int), D.i (i.I.toNat : Int), D.i (j.I.toNat : Int), D.i (k.I.toNat : Int), D.l (List.set l.L d.I.toNat (updC (List.getD l.L d.I.toNat []) [D.i (maxI (maxI (D.I (List.getD (List.getD l.L d.I.toNat []) 0 default)) (IntKind.wrap IntKind.i64 (D.I (List.getD (List.getD (D.L (List.getD (List.getD g.L d.I.toNat []) (0 + 1 + 1 + 1 + 1 + 1 + 1 + 1) default)) (Int.toNat (D.I (List.getD (List.getD a.L d.I.toNat []) 0 default))) []) 0 default) + D.I (List.getD (List.getD g.L d.I.toNat []) (0 + 1) default)))) (IntKind.wrap IntKind.i64 (D.I (List.getD (List.getD l.L (Int.toNat (IntKind.wrap IntKind.i64 (d.I + (1 : Int)))) []) 0 default) - D.I (List.getD (List.getD g.L d.I.toNat []) 0 default))))] 0 0 (List.length [K.int IntKind.i64]))), D.l m.L, D.l n.L, D.l o.L])))) (T.leaf (Rd.again [D.l a.L, D.i b.I, D.b c.B, D.i (IntKind.wrap IntKind.i64 (d.I + (1 : Int))), D.i e.I, D.i f.I, D.l g.L, D.i (h.I.toNat : Int), D.i (i.I.toNat : Int), D.i (j.I.toNat : Int), D.i (k.I.toNat : Int), D.l l.L, D.l m.L, D.l n.L, D.l o.L])))))))) (T.ite (decide (maxI (maxI (D.I (List.getD (List.getD l.L d.I.toNat []) 0 default)) (IntKind.wrap IntKind.i64 (D.I (List.getD (List.getD (D.L (List.getD (List.getD g.L d.I.toNat []) (0 + 1 + 1 + 1 + 1 + 1 + 1 + 1) default)) (Int.toNat (D.I (List.getD (List.getD a.L d.I.toNat []) 0 default))) []) 0 default) + D.I (List.getD (List.getD g.L d.I.toNat []) (0 + 1) default)))) (IntKind.wrap IntKind.i64 (D.I (List.getD (List.getD l.L (Int.toNat (IntKind.wrap IntKind.i64 (d.I + (1 : Int)))) []) 0 default) - D.I (List.getD (List.getD g.L d.I.toNat []) 0 default))) > (1000000000 : Int))) T.fail (T.need (decide ((0 : Int) ≤ d.I ∧ d.I < (h.I.toNat : Int))) (T.need (decide (d.I.toNat < l.L.length)) (T.ite (maxI (maxI (D.I (List.getD (List.getD l.L d.I.toNat []) 0 default)) (IntKind.wrap IntKind.i64 (D.I (List.getD (List.getD (D.L (List.getD (List.getD g.L d.I.toNat []) (0 + 1 + 1 + 1 + 1 + 1 + 1 + 1) default)) (Int.toNat (D.I (List.getD (List.getD a.L d.I.toNat []) 0 default))) []) 0 default) + D.I (List.getD (List.getD g.L d.I.toNat []) (0 + 1) default)))) (IntKind.wrap IntKind.i64 (D.I (List.getD (List.getD l.L (Int.toNat (IntKind.wrap IntKind.i64 (d.I + (1 : Int)))) []) 0 default) - D.I (List.getD (List.getD g.L d.I.toNat []) 0 default))) != D.I (List.getD (List.getD l.L d.I.toNat []) 0 default)) (T.need (decide ((0 : Int) ≤ d.I ∧ d.I < (h.I.toNat : Int))) (T.need (decide (d.I.toNat < l.L.length)) (T.leaf (Rd.again [D.l a.L, D.i b.I, D.b false, D.i (IntKind.wrap IntKind.i64 (d.I + (1 : Int))), D.i e.I, D.i f.I, D.l g.L, D.i (h.I.toNat : Int), D.i (i.I.toNat : Int), D.i (j.I.toNat : Int), D.i (k.I.toNat : Int), D.l (List.set l.L d.I.toNat (updC (List.getD l.L d.I.toNat []) [D.i (maxI (maxI (D.I (List.getD (List.getD l.L d.I.toNat []) 0 default)) (IntKind.wrap IntKind.i64 (D.I (List.getD (List.getD (D.L (List.getD (List.getD g.L d.I.toNat []) (0 + 1 + 1 + 1 + 1 + 1 + 1 + 1) default)) (Int.toNat (D.I (List.getD (List.getD a.L d.I.toNat []) 0 default))) []) 0 default) + D.I (List.getD (List.getD g.L d.I.toNat []) (0 + 1) default)))) (IntKind.wrap IntKind.i64 (D.I (List.getD (List.getD l.L (Int.toNat (IntKind.wrap IntKind.i64 (d.I + (1 : Int)))) []) 0 default) - D.I (List.getD (List.getD g.L d.I.toNat []) 0 default))))] 0 0 (List.length [K.int IntKind.i64]))), D.l m.L, D.l n.L, D.l o.L])))) (T.leaf (Rd.again [D.l a.L, D.i b.I, D.b c.B, D.i (IntKind.wrap IntKind.i64 (d.I + (1 : Int))), D.i e.I, D.i f.I, D.l g.L, D.i (h.I.toNat : Int), D.i (i.I.toNat : Int), D.i (j.I.toNat : Int), D.i (k.I.toNat : Int), D.l l.L, D.l m.L, D.l n.L, D.l o.L])))))))))) (T.elseT (T.needT (T.needT (T.needT (T.needT (T.thenT (T.needT (T.thenT (T.elseT (T.needT (T.needT (T.thenT (roundT C tab72 (72 : FuncId) (loopOf C.P (72 : FuncId) 8) l72_8 [a, b, c, d, e, f, g, h, i, j, k, l, m, n, o])))))))))))))))))) (T.need (decide ((0 : Int) ≤ d.I ∧ d.I < (g.L.length : Int))) (T.ite (decide (d.I < b.I)) (T.need (decide ((0 : Int) ≤ IntKind.wrap IntKind.i64 (d.I + (1 : Int)) ∧ IntKind.wrap IntKind.i64 (d.I + (1 : Int)) < (h.I.toNat : Int))) (T.need (decide (Int.toNat (IntKind.wrap IntKind.i64 (d.I + (1 : Int))) < l.L.length)) (T.need (decide ((0 : Int) ≤ d.I ∧ d.I < (g.L.length : Int))) (T.ite (decide (IntKind.wrap IntKind.i64 (d.I + (1 : Int)) < b.I)) (T.need (decide ((0 : Int) ≤ IntKind.wrap IntKind.i64 (d.I + (1 : Int)) ∧ IntKind.wrap IntKind.i64 (d.I + (1 : Int)) < (g.L.length : Int))) (T.ite (D.B (List.getD (List.getD g.L (Int.toNat (IntKind.wrap IntKind.i64 (d.I + (1 : Int)))) []) (0 + 1 + 1 + 1 + 1) default)) (T.need (yes (planB e.I f.I g.L = true ∧ (0 : Int) ≤ d.I ∧ d.I < (g.L.length : Int))) (T.need (decide ((0 : Int) ≤ IntKind.wrap IntKind.i64 (d.I + (1 : Int)) ∧ IntKind.wrap IntKind.i64 (d.I + (1 : Int)) < (g.L.length : Int))) (T.ite (decide (maxI (maxI (D.I (List.getD (List.getD l.L d.I.toNat []) 0 default)) (IntKind.wrap IntKind.i64 ((0 : Int) + D.I (List.getD (List.getD g.L d.I.toNat []) (0 + 1) default)))) (IntKind.wrap IntKind.i64 (IntKind.wrap IntKind.i64 (IntKind.wrap IntKind.i64 (D.I (List.getD (List.getD l.L (Int.toNat (IntKind.wrap IntKind.i64 (d.I + (1 : Int)))) []) 0 default) - D.I (List.getD (List.getD g.L d.I.toNat []) 0 default)) - spanF e.I (List.getD g.L d.I.toNat [])) - D.I (List.getD (List.getD g.L (Int.toNat (IntKind.wrap IntKind.i64 (d.I + (1 : Int)))) []) (0 + 1 + 1 + 1 + 1 + 1 + 1) default))) > (1000000000 : Int))) T.fail (T.need (decide ((0 : Int) ≤ d.I ∧ d.I < (h.I.toNat : Int))) (T.need (decide (d.I.toNat < l.L.length)) (T.ite (maxI (maxI (D.I (List.getD (List.getD l.L d.I.toNat []) 0 default)) (IntKind.wrap IntKind.i64 ((0 : Int) + D.I (List.getD (List.getD g.L d.I.toNat []) (0 + 1) default)))) (IntKind.wrap IntKind.i64 (IntKind.wrap IntKind.i64 (IntKind.wrap IntKind.i64 (D.I (List.getD (List.getD l.L (Int.toNat (IntKind.wrap IntKind.i64 (d.I + (1 : Int)))) []) 0 default) - D.I (List.getD (List.getD g.L d.I.toNat []) 0 default)) - spanF e.I (List.getD g.L d.I.toNat [])) - D.I (List.getD (List.getD g.L (Int.toNat (IntKind.wrap IntKind.i64 (d.I + (1 : Int)))) []) (0 + 1 + 1 + 1 + 1 + 1 + 1) default))) != D.I (List.getD (List.getD l.L d.I.toNat []) 0 default)) (T.need (decide ((0 : Int) ≤ d.I ∧ d.I < (h.I.toNat : Int))) (T.need (decide (d.I.toNat < l.L.length)) (T.leaf (Rd.again [D.l a.L, D.i b.I, D.b false, D.i (IntKind.wrap IntKind.i64 (d.I + (1 : Int))), D.i e.I, D.i f.I, D.l g.L, D.i (h.I.toNat : Int), D.i (i.I.toNat : Int), D.i (j.I.toNat : Int), D.i (k.I.toNat : Int), D.l (List.set l.L d.I.toNat (updC (List.getD l.L d.I.toNat []) [D.i (maxI (maxI (D.I (List.getD (List.getD l.L d.I.toNat []) 0 default)) (IntKind.wrap IntKind.i64 ((0 : Int) + D.I (List.getD (List.getD g.L d.I.toNat []) (0 + 1) default)))) (IntKind.wrap IntKind.i64 (IntKind.wrap IntKind.i64 (IntKind.wrap IntKind.i64 (D.I (List.getD (List.getD l.L (Int.toNat (IntKind.wrap IntKind.i64 (d.I + (1 : Int)))) []) 0 default) - D.I (List.getD (List.getD g.L d.I.toNat []) 0 default)) - spanF e.I (List.getD g.L d.I.toNat [])) - D.I (List.getD (List.getD g.L (Int.toNat (IntKind.wrap IntKind.i64 (d.I + (1 : Int)))) []) (0 + 1 + 1 + 1 + 1 + 1 + 1) default))))] 0 0 (List.length [K.int IntKind.i64]))), D.l m.L, D.l n.L, D.l o.L])))) (T.leaf (Rd.again [D.l a.L, D.i b.I, D.b c.B, D.i (IntKind.wrap IntKind.i64 (d.I + (1 : Int))), D.i e.I, D.i f.I, D.l g.L, D.i (h.I.toNat : Int), D.i (i.I.toNat : Int), D.i (j.I.toNat : Int), D.i (k.I.toNat : Int), D.l l.L, D.l m.L, D.l n.L, D.l o.L])))))))) (T.ite (decide (maxI (maxI (D.I (List.getD (List.getD l.L d.I.toNat []) 0 default)) (IntKind.wrap IntKind.i64 ((0 : Int) + D.I (List.getD (List.getD g.L d.I.toNat []) (0 + 1) default)))) (IntKind.wrap IntKind.i64 (D.I (List.getD (List.getD l.L (Int.toNat (IntKind.wrap IntKind.i64 (d.I + (1 : Int)))) []) 0 default) - D.I (List.getD (List.getD g.L d.I.toNat []) 0 default))) > (1000000000 : Int))) T.fail (T.need (decide ((0 : Int) ≤ d.I ∧ d.I < (h.I.toNat : Int))) (T.need (decide (d.I.toNat < l.L.length)) (T.ite (maxI (maxI (D.I (List.getD (List.getD l.L d.I.toNat []) 0 default)) (IntKind.wrap IntKind.i64 ((0 : Int) + D.I (List.getD (List.getD g.L d.I.toNat []) (0 + 1) default)))) (IntKind.wrap IntKind.i64 (D.I (List.getD (List.getD l.L (Int.toNat (IntKind.wrap IntKind.i64 (d.I + (1 : Int)))) []) 0 default) - D.I (List.getD (List.getD g.L d.I.toNat []) 0 default))) != D.I (List.getD (List.getD l.L d.I.toNat []) 0 default)) (T.need (decide ((0 : Int) ≤ d.I ∧ d.I < (h.I.toNat : Int))) (T.need (decide (d.I.toNat < l.L.length)) (T.leaf (Rd.again [D.l a.L, D.i b.I, D.b false, D.i (IntKind.wrap IntKind.i64 (d.I + (1 : Int))), D.i e.I, D.i f.I, D.l g.L, D.i (h.I.toNat : Int), D.i (i.I.toNat : Int), D.i (j.I.toNat : Int), D.i (k.I.toNat : Int), D.l (List.set l.L d.I.toNat (updC (List.getD l.L d.I.toNat []) [D.i (maxI (maxI (D.I (List.getD (List.getD l.L d.I.toNat []) 0 default)) (IntKind.wrap IntKind.i64 ((0 : Int) + D.I (List.getD (List.getD g.L d.I.toNat []) (0 + 1) default)))) (IntKind.wrap IntKind.i64 (D.I (List.getD (List.getD l.L (Int.toNat (IntKind.wrap IntKind.i64 (d.I + (1 : Int)))) []) 0 default) - D.I (List.getD (List.getD g.L d.I.toNat []) 0 default))))] 0 0 (List.length [K.int IntKind.i64]))), D.l m.L, D.l n.L, D.l o.L])))) (T.leaf (Rd.again [D.l a.L, D.i b.I, D.b c.B, D.i (IntKind.wrap IntKind.i64 (d.I + (1 : Int))), D.i e.I, D.i f.I, D.l g.L, D.i (h.I.toNat : Int), D.i (i.I.toNat : Int), D.i (j.I.toNat : Int), D.i (k.I.toNat : Int), D.l l.L, D.l m.L, D.l n.L, D.l o.L])))))))) (T.ite (decide (maxI (maxI (D.I (List.getD (List.getD l.L d.I.toNat []) 0 default)) (IntKind.wrap IntKind.i64 ((0 : Int) + D.I (List.getD (List.getD g.L d.I.toNat []) (0 + 1) default)))) (IntKind.wrap IntKind.i64 (D.I (List.getD (List.getD l.L (Int.toNat (IntKind.wrap IntKind.i64 (d.I + (1 : Int)))) []) 0 default) - D.I (List.getD (List.getD g.L d.I.toNat []) 0 default))) > (1000000000 : Int))) T.fail (T.need (decide ((0 : Int) ≤ d.I ∧ d.I < (h.I.toNat : Int))) (T.need (decide (d.I.toNat < l.L.length)) (T.ite (maxI (maxI (D.I (List.getD (List.getD l.L d.I.toNat []) 0 default)) (IntKind.wrap IntKind.i64 ((0 : Int) + D.I (List.getD (List.getD g.L d.I.toNat []) (0 + 1) default)))) (IntKind.wrap IntKind.i64 (D.I (List.getD (List.getD l.L (Int.toNat (IntKind.wrap IntKind.i64 (d.I + (1 : Int)))) []) 0 default) - D.I (List.getD (List.getD g.L d.I.toNat []) 0 default))) != D.I (List.getD (List.getD l.L d.I.toNat []) 0 default)) (T.need (decide ((0 : Int) ≤ d.I ∧ d.I < (h.I.toNat : Int))) (T.need (decide (d.I.toNat < l.L.length)) (T.leaf (Rd.again [D.l a.L, D.i b.I, D.b false, D.i (IntKind.wrap IntKind.i64 (d.I + (1 : Int))), D.i e.I, D.i f.I, D.l g.L, D.i (h.I.toNat : Int), D.i (i.I.toNat : Int), D.i (j.I.toNat : Int), D.i (k.I.toNat : Int), D.l (List.set l.L d.I.toNat (updC (List.getD l.L d.I.toNat []) [D.i (maxI (maxI (D.I (List.getD (List.getD l.L d.I.toNat []) 0 default)) (IntKind.wrap IntKind.i64 ((0 : Int) + D.I (List.getD (List.getD g.L d.I.toNat []) (0 + 1) default)))) (IntKind.wrap IntKind.i64 (D.I (List.getD (List.getD l.L (Int.toNat (IntKind.wrap IntKind.i64 (d.I + (1 : Int)))) []) 0 default) - D.I (List.getD (List.getD g.L d.I.toNat []) 0 default))))] 0 0 (List.length [K.int IntKind.i64]))), D.l m.L, D.l n.L, D.l o.L])))) (T.leaf (Rd.again [D.l a.L, D.i b.I, D.b c.B, D.i (IntKind.wrap IntKind.i64 (d.I + (1 : Int))), D.i e.I, D.i f.I, D.l g.L, D.i (h.I.toNat : Int), D.i (i.I.toNat : Int), D.i (j.I.toNat : Int), D.i (k.I.toNat : Int), D.l l.L, D.l m.L, D.l n.L, D.l o.L])))))))))) (T.elseT (T.needT (T.elseT (T.needT (T.thenT (T.elseT (T.needT (T.needT (T.thenT (roundT C tab72 (72 : FuncId) (loopOf C.P (72 : FuncId) 8) l72_8 [a, b, c, d, e, f, g, h, i, j, k, l, m, n, o])))))))))))))) (T.ite (decide (d.I < b.I)) (T.thenT (T.elseT (T.elseT (T.needT (T.needT (T.thenT (roundT C tab72 (72 : FuncId) (loopOf C.P (72 : FuncId) 8) l72_8 [a, b, c, d, e, f, g, h, i, j, k, l, m, n, o]))))))) (T.ite (decide (D.I (List.getD (List.getD l.L d.I.toNat []) 0 default) > (1000000000 : Int))) T.fail (T.need (decide ((0 : Int) ≤ d.I ∧ d.I < (h.I.toNat : Int))) (T.need (decide (d.I.toNat < l.L.length)) (T.ite (D.I (List.getD (List.getD l.L d.I.toNat []) 0 default) != D.I (List.getD (List.getD l.L d.I.toNat []) 0 default)) (T.need (decide ((0 : Int) ≤ d.I ∧ d.I < (h.I.toNat : Int))) (T.need (decide (d.I.toNat < l.L.length)) (T.leaf (Rd.again [D.l a.L, D.i b.I, D.b false, D.i (IntKind.wrap IntKind.i64 (d.I + (1 : Int))), D.i e.I, D.i f.I, D.l g.L, D.i (h.I.toNat : Int), D.i (i.I.toNat : Int), D.i (j.I.toNat : Int), D.i (k.I.toNat : Int), D.l (List.set l.L d.I.toNat (updC (List.getD l.L d.I.toNat []) [D.i (D.I (List.getD (List.getD l.L d.I.toNat []) 0 default))] 0 0 (List.length [K.int IntKind.i64]))), D.l m.L, D.l n.L, D.l o.L])))) (T.leaf (Rd.again [D.l a.L, D.i b.I, D.b c.B, D.i (IntKind.wrap IntKind.i64 (d.I + (1 : Int))), D.i e.I, D.i f.I, D.l g.L, D.i (h.I.toNat : Int), D.i (i.I.toNat : Int), D.i (j.I.toNat : Int), D.i (k.I.toNat : Int), D.l l.L, D.l m.L, D.l n.L, D.l o.L]))))))))))) (T.leaf (Rd.out (Ex.exit 2) [D.l a.L, D.i b.I, D.b c.B, D.i e.I, D.i f.I, D.l g.L, D.i (h.I.toNat : Int), D.i (i.I.toNat : Int), D.i (j.I.toNat : Int), D.i (k.I.toNat : Int), D.l l.L, D.l m.L, D.l n.L, D.l o.L]))) := by kernel_rfl
end Go.Proofs.Ytipbcpobnciccaa
namespace Go.Proofs.Ytipbcpobnciccaa
open Go.Lite
set_option maxRecDepth 100000
theorem rd_eq {G : List D → T (Ex × List D)} {μ : List D → Nat} {ds : List D} {r : Ex × List D} {X Y : Option Rd} (e : X = Y) (h : RdOK G μ ds r Y) : RdOK G μ ds r X := e ▸ h
section
variable {c : Int} {w ch d : List (List D)} {j : Nat}
theorem st_zero (h : 0 < w.length) : stD c w ch d 0 = max (max (rg d 0) (fromF w ch 0 + ix (w.getD 0 []) 1)) (rg d 1 - moW c w 0) := by
  unfold stD
  simp only
  rw [if_pos h, if_pos h, if_neg (by omega)]
theorem st_mid (h : j + 1 < w.length) : stD c w ch d (j + 1) = max (max (max (rg d (j + 1)) (rg d j + leW c w j)) (fromF w ch (j + 1) + ix (w.getD (j + 1) []) 1)) (rg d (j + 2) - moW c w (j + 1)) := by
  unfold stD
  simp only
  rw [if_pos h, if_pos h, if_pos (by omega)]
  rfl
theorem st_last (h : ¬ j + 1 < w.length) : stD c w ch d (j + 1) = max (rg d (j + 1)) (rg d j + leW c w j) := by
  unfold stD
  simp only
  rw [if_neg h, if_neg h, if_pos (by omega)]
  rfl
end
set_option maxHeartbeats 8000000 in
theorem ok72_8 (n : Nat) : LoopSim C (n + 3) 72 (loopOf C.P 72 8) (mkL l72_8 G72_8) := by
  refine loop_ofK hC (sp := sp72) (lp := lp72) (sw := sw72) ⟨ok60 (n + 2), ok27 n, trivial⟩ trivial 0 [] (by kernel_rfl) rfl (fun k hk => by cases hk) (by kernel_rfl) (fun ds => ((ds.getD 1 default).I + 1 - (ds.getD 3 default).I).toNat) fun ds rr h => ?_
  unfold G72_8 at h
  split at h
  · rename_i ch r s j c f w n1 n2 n3 n4 du cl op chr
    obtain ⟨hp, h⟩ := need_some h
    rw [yes_iff] at hp
    obtain ⟨ht, h1, h2, hd, j0, j1⟩ := hp
    have hbig := big_eq
    obtain ⟨hp, hc⟩ := ht
    have ht : tabOK c.I f.I w.L ch.L := ⟨hp, hc⟩
    obtain ⟨p0, p1, -⟩ := plan_of hp
    refine ⟨by rw [fuelC]; show (r.I + 1 - j.I).toNat < _; omega, ?_⟩
    refine rd_eq (t72_8 ch r s j c f w n1 n2 n3 n4 du cl op chr) ?_
    generalize roundT C tab72 72 (loopOf C.P 72 8) l72_8 [ch, r, s, j, c, f, w, n1, n2, n3, n4, du, cl, op, chr] = XX
    obtain ⟨q, hq⟩ : ∃ q : Nat, j.I = q := ⟨j.I.toNat, by omega⟩
    have z1 : n1.I.toNat = w.L.length + 1 := by omega
    have dl := hd.1
    have hrng := fun (i : Nat) (hi : i ≤ w.L.length) => st_rng ht hd hi
    obtain ⟨-, -, -, d4, -⟩ := due_least (f := f.I) hp hc
    have hcl := hc.1
    have dn : ∀ i, 0 ≤ rg du.L i ∧ rg du.L i ≤ 2000000 := fun i => ⟨hd.2.2.2.1 i, by have := hd.2.2.2.2 i; have := d4 i; omega⟩
    -- the end of a round
    have tail : q ≤ w.L.length → ∀ V : Int, V = stD c.I w.L ch.L du.L q →
        RdOK G72_8 (fun ds => ((ds.getD 1 default).I + 1 - (ds.getD 3 default).I).toNat) [ch, r, s, j, c, f, w, n1, n2, n3, n4, du, cl, op, chr] rr
          (T.ite (decide (V > 1000000000)) T.fail (T.need (decide (0 ≤ (q : Int) ∧ (q : Int) < ((w.L.length + 1 : Nat) : Int))) (T.need (decide (q < du.L.length)) (T.ite (V != rg du.L q) (T.need (decide (0 ≤ (q : Int) ∧ (q : Int) < ((w.L.length + 1 : Nat) : Int))) (T.need (decide (q < du.L.length))
            (T.leaf (Rd.again [.l ch.L, .i (w.L.length : Int), .b false, .i ((q + 1 : Nat) : Int), .i c.I, .i f.I, .l w.L, .i ((w.L.length + 1 : Nat) : Int), .i (n2.I.toNat : Int), .i (n3.I.toNat : Int), .i (n4.I.toNat : Int), .l (rs du.L q V), .l cl.L, .l op.L, .l chr.L]))))
            (T.leaf (Rd.again [.l ch.L, .i (w.L.length : Int), .b s.B, .i ((q + 1 : Nat) : Int), .i c.I, .i f.I, .l w.L, .i ((w.L.length + 1 : Nat) : Int), .i (n2.I.toNat : Int), .i (n3.I.toNat : Int), .i (n4.I.toNat : Int), .l du.L, .l cl.L, .l op.L, .l chr.L])))))).run := by
      intro hql V hV
      have hr := hrng q hql
      have hm := d4 q
      have hmu : ((w.L.length : Int) + 1 - ((q + 1 : Nat) : Int)).toNat < (r.I + 1 - j.I).toNat := by omega
      have hok := sw_ok ht (x := (du.L, s.B)) hd hql
      rw [hq, Int.toNat_natCast, show w.L.length + 1 - q = (w.L.length + 1 - (q + 1)) + 1 by omega] at h
      simp only [sweepF] at h
      refine rd_neg (by omega) (rd_dec (by omega) (rd_dec (by omega) (rd_ite (fun hne => rd_dec (by omega) (rd_dec (by omega) (rd_again ?_ hmu))) fun heq => rd_again ?_ hmu)))
      · have hne' : stD c.I w.L ch.L du.L q ≠ rg du.L q := by rw [← hV]; exact bne_iff_ne.1 hne
        have e : swS c.I w.L ch.L q (du.L, s.B) = (rs du.L q V, false) := by unfold swS; rw [if_pos hne', hV]
        rw [e] at h hok
        refine (need_yes ⟨ht, rfl, by simp only [I_i, L_l]; omega, hok.1, by simp only [I_i]; omega, by simp only [I_i]; omega⟩).trans ?_
        rw [← h]
        simp only [I_i, L_l, B_b, lenN, h1, z1, Int.toNat_natCast]
      · have he : V = rg du.L q := by
          have : ¬ (V != rg du.L q) = true := by rw [heq]; exact Bool.false_ne_true
          simpa using this
        have e : swS c.I w.L ch.L q (du.L, s.B) = (du.L, s.B) := by unfold swS; rw [if_neg (by simp only; rw [← hV, he]; exact fun h => h rfl)]
        rw [e] at h
        refine (need_yes ⟨ht, rfl, by simp only [I_i, L_l]; omega, hd, by simp only [I_i]; omega, by simp only [I_i]; omega⟩).trans ?_
        rw [← h]
        simp only [I_i, L_l, B_b, lenN, h1, z1, Int.toNat_natCast]
    have w1 : IntKind.i64.wrap ((q : Int) + 1) = ((q + 1 : Nat) : Int) := wrap_succ (by omega)
    simp only [hq, h1, z1, Int.toNat_natCast, Nat.reduceAdd, w1, ix_def, bx_def, lx_def, upd1, rs_def]
    by_cases hqe : q ≤ w.L.length
    case neg =>
      refine rd_neg (by omega) (rd_out ?_)
      rw [← h]
      rw [hq, Int.toNat_natCast, show w.L.length + 1 - q = 0 by omega]
      simp only [sweepF, lenN, h1, z1]
      rfl
    have tail := tail hqe
    have gch : ∀ i, ix (ch.L.getD i []) 0 = rg ch.L i := fun _ => rfl
    have gdu : ∀ i, ix (du.L.getD i []) 0 = rg du.L i := fun _ => rfl
    have gwin : ∀ i, (lx (w.L.getD i []) 7).getD (rg ch.L i).toNat [] = winF w.L ch.L i := fun _ => rfl
    simp only [gch, gdu, gwin]
    refine rd_pos (by omega) (rd_dec (by omega) (rd_dec (by omega) ?_))
    cases q with
    | zero =>
      have hlt : 0 < w.L.length := by omega
      have cq := wayC_of (way_of hp hlt).1
      have sq := span_of hp hlt
      have hfr := from_of hp hc hlt
      have hcj := hc.2 0 hlt
      refine rd_neg (by omega) ?_
      repeat (first | refine rd_dec (by omega) ?_ | refine rd_yes ⟨hp, by omega, by omega⟩ ?_ | refine rd_true rfl ?_ | refine rd_false rfl ?_ | refine rd_pos (by omega) ?_ | refine rd_neg (by omega) ?_)
      have dq1 := dn (0 + 1)
      by_cases h0 : 0 ≤ rg ch.L (0)
      · rw [if_neg (fun e => by rw [if_pos e] at hcj; omega)] at hcj
        have hwn := win_of hp hc hlt h0
        have eF : IntKind.i64.wrap (ix (winF w.L ch.L (0)) 0 + ix (w.L.getD (0) []) 1) = fromF w.L ch.L (0) + ix (w.L.getD (0) []) 1 := by
          rw [wrap_id (by omega) (by omega)]
          unfold fromF
          rw [if_pos h0]
        refine rd_pos h0 ?_
        repeat (first | refine rd_dec (by omega) ?_ | refine rd_yes ⟨hp, by omega, by omega⟩ ?_ | refine rd_true rfl ?_ | refine rd_false rfl ?_ | refine rd_pos (by omega) ?_ | refine rd_neg (by omega) ?_)
        by_cases hn : 0 + 1 < w.L.length
        · cases hg2 : bx (w.L.getD (0 + 1) []) 4 with
          | true =>
            have cn := wayC_of (way_of hp hn).1
            have eN : IntKind.i64.wrap (IntKind.i64.wrap (IntKind.i64.wrap (rg du.L (0 + 1) - ix (w.L.getD (0) []) 0) - spanF c.I (w.L.getD (0) [])) - ix (w.L.getD (0 + 1) []) 6) = rg du.L (0 + 1) - moW c.I w.L (0) := by
              rw [wrap_id (x := rg du.L (0 + 1) - ix (w.L.getD (0) []) 0) (by omega) (by omega), wrap_id (x := rg du.L (0 + 1) - ix (w.L.getD (0) []) 0 - spanF c.I (w.L.getD (0) [])) (by omega) (by omega), wrap_id (by omega) (by omega)]
              unfold moW
              rw [if_pos ⟨hn, hg2⟩]
              omega
            repeat (first | refine rd_dec (by omega) ?_ | refine rd_yes ⟨hp, by omega, by omega⟩ ?_ | refine rd_true rfl ?_ | refine rd_false rfl ?_ | refine rd_pos (by omega) ?_ | refine rd_neg (by omega) ?_)
            exact tail _ (by rw [st_zero hlt]; simp only [eF, eN, maxI_eq])
          | false =>
            have eN : IntKind.i64.wrap (rg du.L (0 + 1) - ix (w.L.getD (0) []) 0) = rg du.L (0 + 1) - moW c.I w.L (0) := by
              rw [wrap_id (by omega) (by omega)]
              unfold moW
              rw [if_neg (fun hh => by rw [hg2] at hh; cases hh.2)]
            repeat (first | refine rd_dec (by omega) ?_ | refine rd_yes ⟨hp, by omega, by omega⟩ ?_ | refine rd_true rfl ?_ | refine rd_false rfl ?_ | refine rd_pos (by omega) ?_ | refine rd_neg (by omega) ?_)
            exact tail _ (by rw [st_zero hlt]; simp only [eF, eN, maxI_eq])
        · have eN : IntKind.i64.wrap (rg du.L (0 + 1) - ix (w.L.getD (0) []) 0) = rg du.L (0 + 1) - moW c.I w.L (0) := by
            rw [wrap_id (by omega) (by omega)]
            unfold moW
            rw [if_neg (fun hh => hn hh.1)]
          repeat (first | refine rd_dec (by omega) ?_ | refine rd_yes ⟨hp, by omega, by omega⟩ ?_ | refine rd_true rfl ?_ | refine rd_false rfl ?_ | refine rd_pos (by omega) ?_ | refine rd_neg (by omega) ?_)
          exact tail _ (by rw [st_zero hlt]; simp only [eF, eN, maxI_eq])
      · have eF : IntKind.i64.wrap (0 + ix (w.L.getD (0) []) 1) = fromF w.L ch.L (0) + ix (w.L.getD (0) []) 1 := by
          rw [wrap_id (by omega) (by omega)]
          unfold fromF
          rw [if_neg h0]
        refine rd_neg h0 ?_
        repeat (first | refine rd_dec (by omega) ?_ | refine rd_yes ⟨hp, by omega, by omega⟩ ?_ | refine rd_true rfl ?_ | refine rd_false rfl ?_ | refine rd_pos (by omega) ?_ | refine rd_neg (by omega) ?_)
        by_cases hn : 0 + 1 < w.L.length
        · cases hg2 : bx (w.L.getD (0 + 1) []) 4 with
          | true =>
            have cn := wayC_of (way_of hp hn).1
            have eN : IntKind.i64.wrap (IntKind.i64.wrap (IntKind.i64.wrap (rg du.L (0 + 1) - ix (w.L.getD (0) []) 0) - spanF c.I (w.L.getD (0) [])) - ix (w.L.getD (0 + 1) []) 6) = rg du.L (0 + 1) - moW c.I w.L (0) := by
              rw [wrap_id (x := rg du.L (0 + 1) - ix (w.L.getD (0) []) 0) (by omega) (by omega), wrap_id (x := rg du.L (0 + 1) - ix (w.L.getD (0) []) 0 - spanF c.I (w.L.getD (0) [])) (by omega) (by omega), wrap_id (by omega) (by omega)]
              unfold moW
              rw [if_pos ⟨hn, hg2⟩]
              omega
            repeat (first | refine rd_dec (by omega) ?_ | refine rd_yes ⟨hp, by omega, by omega⟩ ?_ | refine rd_true rfl ?_ | refine rd_false rfl ?_ | refine rd_pos (by omega) ?_ | refine rd_neg (by omega) ?_)
            exact tail _ (by rw [st_zero hlt]; simp only [eF, eN, maxI_eq])
          | false =>
            have eN : IntKind.i64.wrap (rg du.L (0 + 1) - ix (w.L.getD (0) []) 0) = rg du.L (0 + 1) - moW c.I w.L (0) := by
              rw [wrap_id (by omega) (by omega)]
              unfold moW
              rw [if_neg (fun hh => by rw [hg2] at hh; cases hh.2)]
            repeat (first | refine rd_dec (by omega) ?_ | refine rd_yes ⟨hp, by omega, by omega⟩ ?_ | refine rd_true rfl ?_ | refine rd_false rfl ?_ | refine rd_pos (by omega) ?_ | refine rd_neg (by omega) ?_)
            exact tail _ (by rw [st_zero hlt]; simp only [eF, eN, maxI_eq])
        · have eN : IntKind.i64.wrap (rg du.L (0 + 1) - ix (w.L.getD (0) []) 0) = rg du.L (0 + 1) - moW c.I w.L (0) := by
            rw [wrap_id (by omega) (by omega)]
            unfold moW
            rw [if_neg (fun hh => hn hh.1)]
          repeat (first | refine rd_dec (by omega) ?_ | refine rd_yes ⟨hp, by omega, by omega⟩ ?_ | refine rd_true rfl ?_ | refine rd_false rfl ?_ | refine rd_pos (by omega) ?_ | refine rd_neg (by omega) ?_)
          exact tail _ (by rw [st_zero hlt]; simp only [eF, eN, maxI_eq])
    | succ p =>
      have w2 : IntKind.i64.wrap (((p + 1 : Nat) : Int) - 1) = (p : Int) := by rw [wrap_id (by omega) (by omega)]; omega
      simp only [w2, Int.toNat_natCast]
      have hpl : p < w.L.length := by omega
      have cp := wayC_of (way_of hp hpl).1
      have sp' := span_of hp hpl
      have dp := dn p
      refine rd_pos (by omega) (rd_dec (by omega) (rd_dec (by omega) (rd_dec (by omega) ?_)))
      by_cases hlt : p + 1 < w.L.length
      · refine rd_pos (by omega) (rd_dec (by omega) ?_)
        have cq := wayC_of (way_of hp hlt).1
        have sq := span_of hp hlt
        have hfr := from_of hp hc hlt
        have hcj := hc.2 (p + 1) hlt
        cases hg : bx (w.L.getD (p + 1) []) 4 with
        | true =>
          have eA : IntKind.i64.wrap (IntKind.i64.wrap (IntKind.i64.wrap (rg du.L p + ix (w.L.getD p []) 0) + spanF c.I (w.L.getD p [])) + ix (w.L.getD (p + 1) []) 5) = rg du.L p + leW c.I w.L p := by
            rw [wrap_id (x := rg du.L p + ix (w.L.getD p []) 0) (by omega) (by omega), wrap_id (x := rg du.L p + ix (w.L.getD p []) 0 + spanF c.I (w.L.getD p [])) (by omega) (by omega), wrap_id (by omega) (by omega)]
            unfold leW
            rw [if_pos ⟨hlt, hg⟩]
            omega
          refine rd_true rfl ?_
          repeat (first | refine rd_dec (by omega) ?_ | refine rd_yes ⟨hp, by omega, by omega⟩ ?_ | refine rd_true rfl ?_ | refine rd_false rfl ?_ | refine rd_pos (by omega) ?_ | refine rd_neg (by omega) ?_)
          have dq1 := dn (p + 1 + 1)
          by_cases h0 : 0 ≤ rg ch.L (p + 1)
          · rw [if_neg (fun e => by rw [if_pos e] at hcj; omega)] at hcj
            have hwn := win_of hp hc hlt h0
            have eF : IntKind.i64.wrap (ix (winF w.L ch.L (p + 1)) 0 + ix (w.L.getD (p + 1) []) 1) = fromF w.L ch.L (p + 1) + ix (w.L.getD (p + 1) []) 1 := by
              rw [wrap_id (by omega) (by omega)]
              unfold fromF
              rw [if_pos h0]
            refine rd_pos h0 ?_
            repeat (first | refine rd_dec (by omega) ?_ | refine rd_yes ⟨hp, by omega, by omega⟩ ?_ | refine rd_true rfl ?_ | refine rd_false rfl ?_ | refine rd_pos (by omega) ?_ | refine rd_neg (by omega) ?_)
            by_cases hn : p + 1 + 1 < w.L.length
            · cases hg2 : bx (w.L.getD (p + 1 + 1) []) 4 with
              | true =>
                have cn := wayC_of (way_of hp hn).1
                have eN : IntKind.i64.wrap (IntKind.i64.wrap (IntKind.i64.wrap (rg du.L (p + 1 + 1) - ix (w.L.getD (p + 1) []) 0) - spanF c.I (w.L.getD (p + 1) [])) - ix (w.L.getD (p + 1 + 1) []) 6) = rg du.L (p + 1 + 1) - moW c.I w.L (p + 1) := by
                  rw [wrap_id (x := rg du.L (p + 1 + 1) - ix (w.L.getD (p + 1) []) 0) (by omega) (by omega), wrap_id (x := rg du.L (p + 1 + 1) - ix (w.L.getD (p + 1) []) 0 - spanF c.I (w.L.getD (p + 1) [])) (by omega) (by omega), wrap_id (by omega) (by omega)]
                  unfold moW
                  rw [if_pos ⟨hn, hg2⟩]
                  omega
                repeat (first | refine rd_dec (by omega) ?_ | refine rd_yes ⟨hp, by omega, by omega⟩ ?_ | refine rd_true rfl ?_ | refine rd_false rfl ?_ | refine rd_pos (by omega) ?_ | refine rd_neg (by omega) ?_)
                exact tail _ (by rw [st_mid hlt]; simp only [eA, eF, eN, maxI_eq])
              | false =>
                have eN : IntKind.i64.wrap (rg du.L (p + 1 + 1) - ix (w.L.getD (p + 1) []) 0) = rg du.L (p + 1 + 1) - moW c.I w.L (p + 1) := by
                  rw [wrap_id (by omega) (by omega)]
                  unfold moW
                  rw [if_neg (fun hh => by rw [hg2] at hh; cases hh.2)]
                repeat (first | refine rd_dec (by omega) ?_ | refine rd_yes ⟨hp, by omega, by omega⟩ ?_ | refine rd_true rfl ?_ | refine rd_false rfl ?_ | refine rd_pos (by omega) ?_ | refine rd_neg (by omega) ?_)
                exact tail _ (by rw [st_mid hlt]; simp only [eA, eF, eN, maxI_eq])
            · have eN : IntKind.i64.wrap (rg du.L (p + 1 + 1) - ix (w.L.getD (p + 1) []) 0) = rg du.L (p + 1 + 1) - moW c.I w.L (p + 1) := by
                rw [wrap_id (by omega) (by omega)]
                unfold moW
                rw [if_neg (fun hh => hn hh.1)]
              repeat (first | refine rd_dec (by omega) ?_ | refine rd_yes ⟨hp, by omega, by omega⟩ ?_ | refine rd_true rfl ?_ | refine rd_false rfl ?_ | refine rd_pos (by omega) ?_ | refine rd_neg (by omega) ?_)
              exact tail _ (by rw [st_mid hlt]; simp only [eA, eF, eN, maxI_eq])
          · have eF : IntKind.i64.wrap (0 + ix (w.L.getD (p + 1) []) 1) = fromF w.L ch.L (p + 1) + ix (w.L.getD (p + 1) []) 1 := by
              rw [wrap_id (by omega) (by omega)]
              unfold fromF
              rw [if_neg h0]
            refine rd_neg h0 ?_
            repeat (first | refine rd_dec (by omega) ?_ | refine rd_yes ⟨hp, by omega, by omega⟩ ?_ | refine rd_true rfl ?_ | refine rd_false rfl ?_ | refine rd_pos (by omega) ?_ | refine rd_neg (by omega) ?_)
            by_cases hn : p + 1 + 1 < w.L.length
            · cases hg2 : bx (w.L.getD (p + 1 + 1) []) 4 with
              | true =>
                have cn := wayC_of (way_of hp hn).1
                have eN : IntKind.i64.wrap (IntKind.i64.wrap (IntKind.i64.wrap (rg du.L (p + 1 + 1) - ix (w.L.getD (p + 1) []) 0) - spanF c.I (w.L.getD (p + 1) [])) - ix (w.L.getD (p + 1 + 1) []) 6) = rg du.L (p + 1 + 1) - moW c.I w.L (p + 1) := by
                  rw [wrap_id (x := rg du.L (p + 1 + 1) - ix (w.L.getD (p + 1) []) 0) (by omega) (by omega), wrap_id (x := rg du.L (p + 1 + 1) - ix (w.L.getD (p + 1) []) 0 - spanF c.I (w.L.getD (p + 1) [])) (by omega) (by omega), wrap_id (by omega) (by omega)]
                  unfold moW
                  rw [if_pos ⟨hn, hg2⟩]
                  omega
                repeat (first | refine rd_dec (by omega) ?_ | refine rd_yes ⟨hp, by omega, by omega⟩ ?_ | refine rd_true rfl ?_ | refine rd_false rfl ?_ | refine rd_pos (by omega) ?_ | refine rd_neg (by omega) ?_)
                exact tail _ (by rw [st_mid hlt]; simp only [eA, eF, eN, maxI_eq])
              | false =>
                have eN : IntKind.i64.wrap (rg du.L (p + 1 + 1) - ix (w.L.getD (p + 1) []) 0) = rg du.L (p + 1 + 1) - moW c.I w.L (p + 1) := by
                  rw [wrap_id (by omega) (by omega)]
                  unfold moW
                  rw [if_neg (fun hh => by rw [hg2] at hh; cases hh.2)]
                repeat (first | refine rd_dec (by omega) ?_ | refine rd_yes ⟨hp, by omega, by omega⟩ ?_ | refine rd_true rfl ?_ | refine rd_false rfl ?_ | refine rd_pos (by omega) ?_ | refine rd_neg (by omega) ?_)
                exact tail _ (by rw [st_mid hlt]; simp only [eA, eF, eN, maxI_eq])
            · have eN : IntKind.i64.wrap (rg du.L (p + 1 + 1) - ix (w.L.getD (p + 1) []) 0) = rg du.L (p + 1 + 1) - moW c.I w.L (p + 1) := by
                rw [wrap_id (by omega) (by omega)]
                unfold moW
                rw [if_neg (fun hh => hn hh.1)]
              repeat (first | refine rd_dec (by omega) ?_ | refine rd_yes ⟨hp, by omega, by omega⟩ ?_ | refine rd_true rfl ?_ | refine rd_false rfl ?_ | refine rd_pos (by omega) ?_ | refine rd_neg (by omega) ?_)
              exact tail _ (by rw [st_mid hlt]; simp only [eA, eF, eN, maxI_eq])
        | false =>
          have eA : IntKind.i64.wrap (rg du.L p + ix (w.L.getD p []) 0) = rg du.L p + leW c.I w.L p := by
            rw [wrap_id (by omega) (by omega)]
            unfold leW
            rw [if_neg (fun hh => by rw [hg] at hh; cases hh.2)]
          refine rd_false rfl ?_
          repeat (first | refine rd_dec (by omega) ?_ | refine rd_yes ⟨hp, by omega, by omega⟩ ?_ | refine rd_true rfl ?_ | refine rd_false rfl ?_ | refine rd_pos (by omega) ?_ | refine rd_neg (by omega) ?_)
          have dq1 := dn (p + 1 + 1)
          by_cases h0 : 0 ≤ rg ch.L (p + 1)
          · rw [if_neg (fun e => by rw [if_pos e] at hcj; omega)] at hcj
            have hwn := win_of hp hc hlt h0
            have eF : IntKind.i64.wrap (ix (winF w.L ch.L (p + 1)) 0 + ix (w.L.getD (p + 1) []) 1) = fromF w.L ch.L (p + 1) + ix (w.L.getD (p + 1) []) 1 := by
              rw [wrap_id (by omega) (by omega)]
              unfold fromF
              rw [if_pos h0]
            refine rd_pos h0 ?_
            repeat (first | refine rd_dec (by omega) ?_ | refine rd_yes ⟨hp, by omega, by omega⟩ ?_ | refine rd_true rfl ?_ | refine rd_false rfl ?_ | refine rd_pos (by omega) ?_ | refine rd_neg (by omega) ?_)
            by_cases hn : p + 1 + 1 < w.L.length
            · cases hg2 : bx (w.L.getD (p + 1 + 1) []) 4 with
              | true =>
                have cn := wayC_of (way_of hp hn).1
                have eN : IntKind.i64.wrap (IntKind.i64.wrap (IntKind.i64.wrap (rg du.L (p + 1 + 1) - ix (w.L.getD (p + 1) []) 0) - spanF c.I (w.L.getD (p + 1) [])) - ix (w.L.getD (p + 1 + 1) []) 6) = rg du.L (p + 1 + 1) - moW c.I w.L (p + 1) := by
                  rw [wrap_id (x := rg du.L (p + 1 + 1) - ix (w.L.getD (p + 1) []) 0) (by omega) (by omega), wrap_id (x := rg du.L (p + 1 + 1) - ix (w.L.getD (p + 1) []) 0 - spanF c.I (w.L.getD (p + 1) [])) (by omega) (by omega), wrap_id (by omega) (by omega)]
                  unfold moW
                  rw [if_pos ⟨hn, hg2⟩]
                  omega
                repeat (first | refine rd_dec (by omega) ?_ | refine rd_yes ⟨hp, by omega, by omega⟩ ?_ | refine rd_true rfl ?_ | refine rd_false rfl ?_ | refine rd_pos (by omega) ?_ | refine rd_neg (by omega) ?_)
                exact tail _ (by rw [st_mid hlt]; simp only [eA, eF, eN, maxI_eq])
              | false =>
                have eN : IntKind.i64.wrap (rg du.L (p + 1 + 1) - ix (w.L.getD (p + 1) []) 0) = rg du.L (p + 1 + 1) - moW c.I w.L (p + 1) := by
                  rw [wrap_id (by omega) (by omega)]
                  unfold moW
                  rw [if_neg (fun hh => by rw [hg2] at hh; cases hh.2)]
                repeat (first | refine rd_dec (by omega) ?_ | refine rd_yes ⟨hp, by omega, by omega⟩ ?_ | refine rd_true rfl ?_ | refine rd_false rfl ?_ | refine rd_pos (by omega) ?_ | refine rd_neg (by omega) ?_)
                exact tail _ (by rw [st_mid hlt]; simp only [eA, eF, eN, maxI_eq])
            · have eN : IntKind.i64.wrap (rg du.L (p + 1 + 1) - ix (w.L.getD (p + 1) []) 0) = rg du.L (p + 1 + 1) - moW c.I w.L (p + 1) := by
                rw [wrap_id (by omega) (by omega)]
                unfold moW
                rw [if_neg (fun hh => hn hh.1)]
              repeat (first | refine rd_dec (by omega) ?_ | refine rd_yes ⟨hp, by omega, by omega⟩ ?_ | refine rd_true rfl ?_ | refine rd_false rfl ?_ | refine rd_pos (by omega) ?_ | refine rd_neg (by omega) ?_)
              exact tail _ (by rw [st_mid hlt]; simp only [eA, eF, eN, maxI_eq])
          · have eF : IntKind.i64.wrap (0 + ix (w.L.getD (p + 1) []) 1) = fromF w.L ch.L (p + 1) + ix (w.L.getD (p + 1) []) 1 := by
              rw [wrap_id (by omega) (by omega)]
              unfold fromF
              rw [if_neg h0]
            refine rd_neg h0 ?_
            repeat (first | refine rd_dec (by omega) ?_ | refine rd_yes ⟨hp, by omega, by omega⟩ ?_ | refine rd_true rfl ?_ | refine rd_false rfl ?_ | refine rd_pos (by omega) ?_ | refine rd_neg (by omega) ?_)
            by_cases hn : p + 1 + 1 < w.L.length
            · cases hg2 : bx (w.L.getD (p + 1 + 1) []) 4 with
              | true =>
                have cn := wayC_of (way_of hp hn).1
                have eN : IntKind.i64.wrap (IntKind.i64.wrap (IntKind.i64.wrap (rg du.L (p + 1 + 1) - ix (w.L.getD (p + 1) []) 0) - spanF c.I (w.L.getD (p + 1) [])) - ix (w.L.getD (p + 1 + 1) []) 6) = rg du.L (p + 1 + 1) - moW c.I w.L (p + 1) := by
                  rw [wrap_id (x := rg du.L (p + 1 + 1) - ix (w.L.getD (p + 1) []) 0) (by omega) (by omega), wrap_id (x := rg du.L (p + 1 + 1) - ix (w.L.getD (p + 1) []) 0 - spanF c.I (w.L.getD (p + 1) [])) (by omega) (by omega), wrap_id (by omega) (by omega)]
                  unfold moW
                  rw [if_pos ⟨hn, hg2⟩]
                  omega
                repeat (first | refine rd_dec (by omega) ?_ | refine rd_yes ⟨hp, by omega, by omega⟩ ?_ | refine rd_true rfl ?_ | refine rd_false rfl ?_ | refine rd_pos (by omega) ?_ | refine rd_neg (by omega) ?_)
                exact tail _ (by rw [st_mid hlt]; simp only [eA, eF, eN, maxI_eq])
              | false =>
                have eN : IntKind.i64.wrap (rg du.L (p + 1 + 1) - ix (w.L.getD (p + 1) []) 0) = rg du.L (p + 1 + 1) - moW c.I w.L (p + 1) := by
                  rw [wrap_id (by omega) (by omega)]
                  unfold moW
                  rw [if_neg (fun hh => by rw [hg2] at hh; cases hh.2)]
                repeat (first | refine rd_dec (by omega) ?_ | refine rd_yes ⟨hp, by omega, by omega⟩ ?_ | refine rd_true rfl ?_ | refine rd_false rfl ?_ | refine rd_pos (by omega) ?_ | refine rd_neg (by omega) ?_)
                exact tail _ (by rw [st_mid hlt]; simp only [eA, eF, eN, maxI_eq])
            · have eN : IntKind.i64.wrap (rg du.L (p + 1 + 1) - ix (w.L.getD (p + 1) []) 0) = rg du.L (p + 1 + 1) - moW c.I w.L (p + 1) := by
                rw [wrap_id (by omega) (by omega)]
                unfold moW
                rw [if_neg (fun hh => hn hh.1)]
              repeat (first | refine rd_dec (by omega) ?_ | refine rd_yes ⟨hp, by omega, by omega⟩ ?_ | refine rd_true rfl ?_ | refine rd_false rfl ?_ | refine rd_pos (by omega) ?_ | refine rd_neg (by omega) ?_)
              exact tail _ (by rw [st_mid hlt]; simp only [eA, eF, eN, maxI_eq])
      · have eA : IntKind.i64.wrap (rg du.L p + ix (w.L.getD p []) 0) = rg du.L p + leW c.I w.L p := by
          rw [wrap_id (by omega) (by omega)]
          unfold leW
          rw [if_neg (fun hh => hlt hh.1)]
        repeat (first | refine rd_dec (by omega) ?_ | refine rd_yes ⟨hp, by omega, by omega⟩ ?_ | refine rd_true rfl ?_ | refine rd_false rfl ?_ | refine rd_pos (by omega) ?_ | refine rd_neg (by omega) ?_)
        exact tail _ (by rw [st_last hlt]; simp only [eA, maxI_eq])
  · cases h
end Go.Proofs.Ytipbcpobnciccaa
namespace Go.Proofs.Ytipbcpobnciccaa
open Go.Lite
def s13 : Sig := ⟨[.agg [.k (.int .i64), .k (.int .i64), .k (.ro [.int .i64, .int .i64, .int .i64, .int .i64, .bool, .int .i64, .int .i64, .ro [.int .i64, .int .i64, .int .i64]])]], [(.k .bool, [])]⟩
end Go.Proofs.Ytipbcpobnciccaa
namespace Go.Proofs.Ytipbcpobnciccaa
open Go.Lite
noncomputable section
def G2023 (ds : List D) : T (List D) := match ds with
  | [c, f, w] => .ite (planB c.I f.I w.L) (.need (yes (fewC w.L)) (.ite (decide ((foundC c.I f.I w.L).1 = 0))
        (.leaf [.i 1, .i 1, .i (w.L.length + 1 : Nat), .i w.L.length, .i w.L.length, .i w.L.length, .i 0, .l (rowP c.I f.I w.L (foundC c.I f.I w.L).2), .l (clR c.I f.I w.L (foundC c.I f.I w.L).2), .l (opR c.I f.I w.L (foundC c.I f.I w.L).2), .l (foundC c.I f.I w.L).2])
        (.ite (decide ((foundC c.I f.I w.L).1 = 5)) (.leaf [.i 0, .i 5]) (.leaf [.i 0, .i 9])))) (.leaf [.i 0, .i 2])
  | _ => .fail
def G1042 (ds : List D) : T (List D) := match ds with
  | [c, f, w] => .need (yes (planB c.I f.I w.L = true))
      (.ite (decide ((foundC c.I f.I w.L).1 = 0))
        (.leaf [.i 0, .i (w.L.length + 1 : Nat), .i w.L.length, .i w.L.length, .i w.L.length, .i 0, .l (dueL c.I f.I w.L (foundC c.I f.I w.L).2), .l (clR c.I f.I w.L (foundC c.I f.I w.L).2), .l (opR c.I f.I w.L (foundC c.I f.I w.L).2), .l (foundC c.I f.I w.L).2])
        (.ite (decide ((foundC c.I f.I w.L).1 = 5)) (.leaf [.i 1, .i 5]) (.leaf [.i 1, .i 9])))
  | _ => .fail
end
end Go.Proofs.Ytipbcpobnciccaa
namespace Go.Proofs.Ytipbcpobnciccaa
open Go.Lite
noncomputable def sp13 : SpL := [(25, mkF s25 G25), (16, mkF s16 G16), (23, mkF s23 G2023), (26, mkF s26 G26), (41, mkF s41 G41), (24, mkF s24 G24), (42, mkF s42 G1042), (43, mkF s43 G43), (44, mkF s44 G44)]
noncomputable def lp13 : LpL := []
noncomputable def sw13 : SwL := []
noncomputable def tab13 : Tab := mkTab sp13 lp13 sw13
end Go.Proofs.Ytipbcpobnciccaa
namespace Go.Proofs.Ytipbcpobnciccaa
open Go.Lite
set_option linter.unusedVariables false
set_option maxRecDepth 100000
theorem t13 (a b c : D) : (fnT C tab13 13 s13 [a, b, c]).run =
  T.run (T.ite (!smallP c.L) (T.leaf [D.b true]) (T.ite (planB a.I b.I c.L) (T.need (yes (fewC c.L)) (T.ite (decide ((foundC a.I b.I c.L).fst = (0 : Int))) (T.ite (!planB a.I b.I c.L) (T.thenT (T.thenT (T.needT (T.thenT (T.elseT (fnT C tab13 (13 : FuncId) s13 [a, b, c])))))) (T.need (yes (planB a.I b.I c.L = true)) (T.ite (decide ((foundC a.I b.I c.L).fst = (0 : Int))) (T.ite ((if planB a.I b.I c.L = true then (0 : Int) else (2 : Int)) == (0 : Int)) (T.need (decide (Int.toNat (1 : Int) + Int.toNat (↑(c.L.length + 1) : Int) ≤ List.length (rowP a.I b.I c.L (foundC a.I b.I c.L).snd))) (T.need (decide (Int.toNat (c.L.length : Int) ≤ List.length (clR a.I b.I c.L (foundC a.I b.I c.L).snd))) (T.need (decide (Int.toNat (c.L.length : Int) ≤ List.length (opR a.I b.I c.L (foundC a.I b.I c.L).snd))) (T.need (decide (Int.toNat (c.L.length : Int) ≤ List.length (foundC a.I b.I c.L).snd)) (T.need (decide (Int.toNat (↑(c.L.length + 1) : Int) ≤ List.length (dueL a.I b.I c.L (foundC a.I b.I c.L).snd))) (T.need (decide (Int.toNat (c.L.length : Int) ≤ List.length (clR a.I b.I c.L (foundC a.I b.I c.L).snd))) (T.need (decide (Int.toNat (c.L.length : Int) ≤ List.length (opR a.I b.I c.L (foundC a.I b.I c.L).snd))) (T.need (decide (Int.toNat (c.L.length : Int) ≤ List.length (foundC a.I b.I c.L).snd)) (T.need (yes (List.length (List.take (Int.toNat (↑(c.L.length + 1) : Int)) (List.drop (Int.toNat (1 : Int)) (rowP a.I b.I c.L (foundC a.I b.I c.L).snd))) < big ∧ List.length (List.take (Int.toNat (c.L.length : Int)) (clR a.I b.I c.L (foundC a.I b.I c.L).snd)) < big ∧ List.length (List.take (Int.toNat (c.L.length : Int)) (opR a.I b.I c.L (foundC a.I b.I c.L).snd)) < big ∧ List.length (List.take (Int.toNat (c.L.length : Int)) (foundC a.I b.I c.L).snd) < big)) (T.ite (sameR (List.take (Int.toNat (↑(c.L.length + 1) : Int)) (List.drop (Int.toNat (1 : Int)) (rowP a.I b.I c.L (foundC a.I b.I c.L).snd))) (List.take (Int.toNat (↑(c.L.length + 1) : Int)) (dueL a.I b.I c.L (foundC a.I b.I c.L).snd)) && (sameR (List.take (Int.toNat (c.L.length : Int)) (clR a.I b.I c.L (foundC a.I b.I c.L).snd)) (List.take (Int.toNat (c.L.length : Int)) (clR a.I b.I c.L (foundC a.I b.I c.L).snd)) && (sameR (List.take (Int.toNat (c.L.length : Int)) (opR a.I b.I c.L (foundC a.I b.I c.L).snd)) (List.take (Int.toNat (c.L.length : Int)) (opR a.I b.I c.L (foundC a.I b.I c.L).snd)) && sameR (List.take (Int.toNat (c.L.length : Int)) (foundC a.I b.I c.L).snd) (List.take (Int.toNat (c.L.length : Int)) (foundC a.I b.I c.L).snd)))) (T.need (decide (Int.toNat (1 : Int) + Int.toNat (↑(c.L.length + 1) : Int) ≤ List.length (rowP a.I b.I c.L (foundC a.I b.I c.L).snd))) (T.need (decide (Int.toNat (c.L.length : Int) ≤ List.length (clR a.I b.I c.L (foundC a.I b.I c.L).snd))) (T.need (decide (Int.toNat (c.L.length : Int) ≤ List.length (opR a.I b.I c.L (foundC a.I b.I c.L).snd))) (T.need (decide (Int.toNat (c.L.length : Int) ≤ List.length (foundC a.I b.I c.L).snd)) (T.need (yes (List.length (List.take (Int.toNat (↑(c.L.length + 1) : Int)) (List.drop (Int.toNat (1 : Int)) (rowP a.I b.I c.L (foundC a.I b.I c.L).snd))) < big ∧ List.length (List.take (Int.toNat (c.L.length : Int)) (clR a.I b.I c.L (foundC a.I b.I c.L).snd)) < big ∧ List.length (List.take (Int.toNat (c.L.length : Int)) (opR a.I b.I c.L (foundC a.I b.I c.L).snd)) < big ∧ List.length (List.take (Int.toNat (c.L.length : Int)) (foundC a.I b.I c.L).snd) < big)) (T.ite (fitsP a.I b.I c.L (List.take (Int.toNat (↑(c.L.length + 1) : Int)) (List.drop (Int.toNat (1 : Int)) (rowP a.I b.I c.L (foundC a.I b.I c.L).snd))) (List.take (Int.toNat (c.L.length : Int)) (clR a.I b.I c.L (foundC a.I b.I c.L).snd)) (List.take (Int.toNat (c.L.length : Int)) (opR a.I b.I c.L (foundC a.I b.I c.L).snd)) (List.take (Int.toNat (c.L.length : Int)) (foundC a.I b.I c.L).snd)) (T.leaf [D.b true]) (T.leaf [D.b false]))))))) (T.leaf [D.b false]))))))))))) (T.leaf [D.b false])) (T.elseT (T.needT (T.elseT (T.thenT (T.needT (T.thenT (T.elseT (fnT C tab13 (13 : FuncId) s13 [a, b, c]))))))))))) (T.ite (decide ((foundC a.I b.I c.L).fst = (5 : Int))) (T.ite (!planB a.I b.I c.L) (T.thenT (T.thenT (T.elseT (T.needT (T.thenT (T.elseT (fnT C tab13 (13 : FuncId) s13 [a, b, c]))))))) (T.need (yes (planB a.I b.I c.L = true)) (T.ite (decide ((foundC a.I b.I c.L).fst = (0 : Int))) (T.thenT (T.needT (T.elseT (T.thenT (T.elseT (T.needT (T.thenT (T.elseT (fnT C tab13 (13 : FuncId) s13 [a, b, c]))))))))) (T.ite (decide ((foundC a.I b.I c.L).fst = (5 : Int))) (T.ite ((if planB a.I b.I c.L = true then (0 : Int) else (2 : Int)) == (0 : Int)) (T.need (yes (List.length ([] : List (List D)) < big ∧ List.length ([] : List (List D)) < big ∧ List.length ([] : List (List D)) < big ∧ List.length ([] : List (List D)) < big)) (T.leaf [D.b true])) (T.leaf [D.b false])) (T.elseT (T.elseT (T.needT (T.elseT (T.thenT (T.elseT (T.needT (T.thenT (T.elseT (fnT C tab13 (13 : FuncId) s13 [a, b, c])))))))))))))) (T.ite (!planB a.I b.I c.L) (T.thenT (T.elseT (T.elseT (T.needT (T.thenT (T.elseT (fnT C tab13 (13 : FuncId) s13 [a, b, c]))))))) (T.need (yes (planB a.I b.I c.L = true)) (T.ite (decide ((foundC a.I b.I c.L).fst = (0 : Int))) (T.thenT (T.needT (T.elseT (T.elseT (T.elseT (T.needT (T.thenT (T.elseT (fnT C tab13 (13 : FuncId) s13 [a, b, c]))))))))) (T.ite (decide ((foundC a.I b.I c.L).fst = (5 : Int))) (T.thenT (T.elseT (T.needT (T.elseT (T.elseT (T.elseT (T.needT (T.thenT (T.elseT (fnT C tab13 (13 : FuncId) s13 [a, b, c])))))))))) (T.ite ((if planB a.I b.I c.L = true then (0 : Int) else (2 : Int)) == (0 : Int)) (T.need (yes (List.length ([] : List (List D)) < big ∧ List.length ([] : List (List D)) < big ∧ List.length ([] : List (List D)) < big ∧ List.length ([] : List (List D)) < big)) (T.leaf [D.b true])) (T.leaf [D.b false]))))))))) (T.ite (!planB a.I b.I c.L) (T.ite ((if planB a.I b.I c.L = true then (0 : Int) else (2 : Int)) == (2 : Int)) (T.need (yes (List.length ([] : List (List D)) ≤ 1000000000 ∧ List.length ([] : List (List D)) ≤ 1000000000 ∧ List.length ([] : List (List D)) ≤ 1000000000 ∧ List.length ([] : List (List D)) ≤ 1000000000)) (T.leaf [D.b true])) (T.leaf [D.b false])) (T.elseT (T.elseT (T.elseT (fnT C tab13 (13 : FuncId) s13 [a, b, c]))))))) := by kernel_rfl
end Go.Proofs.Ytipbcpobnciccaa
namespace Go.Proofs.Ytipbcpobnciccaa
open Go.Lite Go.ChangeShapes Go.WideShapes Go.ChangeAt Go.RowKit
def timetableMakesLaw : Prop := ∀ xs : List AV, ArgsShape Try.prog 12 [38] xs → ∃ n h', callA C n Unit none 13 xs [] () = some (.bool true, h', ())
theorem timetableMakes_plain : ∀ t ∈ [38], plainTy Try.prog 12 t = true := by
  intro t ht
  have h : [38].all (plainTy Try.prog 12) = true := by kernel_rfl
  exact List.all_eq_true.1 h t ht
set_option maxRecDepth 100000 in
theorem timetableMakes_lifted (law : timetableMakesLaw) (os : Os) (started : os.Started) (H : Type) (enc : TypeId × Value → H) :
    ReturnsInHanded {} Try.checked os 13 .any (Rows.timetableMakesSpec.pre6 enc Try.prog Try.f13 Rows.timetableMakesRow.domain false) (Rows.timetableMakesSpec.post enc Try.prog Try.f13 false true false false) := by
  refine returnsInHanded_of_change (C := Try.checked) own started (by kernel_rfl) Try.func13
    (ChangeSpec.witness6 (enc := enc) (C := Try.checked) false ⟨#[], #[.agg #[.int .i64 0, .int .i64 0, .slice none 0 0]], []⟩ 8 (by kernel_rfl) (by kernel_rfl) (by kernel_rfl) (by kernel_rfl)) ?_
  intro W base args ds gs before hval0 hW hcnd _
  have hval : ∀ (j : Nat) t v, Try.f13.params[j]? = some t → args[j]? = some v → Value.okWide Try.prog W .any base t v := hval0
  have hW' := hW
  obtain ⟨p, q, hA0, hV, rfl, hfz, hnd⟩ := hW
  have hA : DataW.TrodAll enc Try.prog W 0 (fun _ => true) true Try.f13.params.toList args.toList ds p := hA0
  have hAk := hA
  rw [Try.params13] at hA hval
  obtain ⟨xs, hs, hr⟩ := args_shape (J := fun _ => False) (d := 12) (fun t ht => timetableMakes_plain t (by simpa using ht)) (fun j t v h1 h2 => hval j t v (by simpa using h1) (by simpa using h2)) hA
  obtain ⟨n, h', hc⟩ := law xs hs
  obtain ⟨v0, vs0, d0, ds0, p0, q0, hargs, rfl, rfl, h0, r0⟩ := trodAll_cons hA
  obtain ⟨rfl, rfl, rfl⟩ := trodAll_nil r0
  obtain rfl : args = #[v0] := by cases args; simp_all
  obtain ⟨rfl, rfl⟩ := trodVars_none hV
  clear hA0 hval0
  simp only [List.append_nil] at hW'
  refine (law_calls (callsOk n) hc hr).mono fun e W' ⟨he, h1, h2, hk⟩ => ?_
  subst he
  have hlt : ∀ x ∈ p0, x.block < W.heap.size := fun x hx => hW'.lt x (by simpa [List.append_assoc] using hx)
  exact ⟨_, rfl, post_of_kept (pa := p0) (pv := []) hW' (fun _ _ _ => trodAll_mk1 (shut_bool Try.underlying4 _))
    (fun sp hsp => trodAll_carry (DataW.TrodAll.respare kids full (by rw [Try.params13]; decide) (by simpa [List.append_assoc, Rows.timetableMakesSpec] using hAk) (fun x hx => hsp x (by simpa [List.append_assoc] using hx))) (fun x hx => sameAt_of (hk _ (hlt x hx))))
    (fun _ _ => rfl) (by simp) h1 h2 hk (ok_one (by kernel_rfl) rfl (okWide_bool_mk Try.underlying4 _))⟩
theorem timetableMakes_over (law : timetableMakesLaw) : Rows.TimetableMakesSaid :=
  OpenClaim.holds_of_wide 13 Try.f13 rfl rfl rfl rfl rfl rfl rfl ⟨rfl, rfl, rfl, rfl, rfl⟩ rfl rfl rfl rfl rfl (by kernel_rfl) Try.func13 (by kernel_rfl)
    (of_decide_eq_true (by kernel_rfl)) (by unfold Func.isWrapper; first | (rw [if_pos (by decide +kernel)]; kernel_rfl) | (rw [if_neg (by decide +kernel)]; exact ⟨rfl, rfl⟩))
    (fun os started H enc _ => timetableMakes_lifted law os started H enc)
end Go.Proofs.Ytipbcpobnciccaa
namespace Go.Proofs.Ytipbcpobnciccaa
open Go.Lite
set_option maxRecDepth 100000
theorem ok2023 (n : Nat) : FnOK C (n + 7) 23 (mkF s23 G2023) := fn_mono (ok23 n) fun ds r h => by
  unfold G2023 at h
  split at h
  · rename_i c f w
    cases hp : planB c.I f.I w.L with
    | false =>
      rw [hp] at h
      exact go_false hp h
    | true =>
      rw [hp] at h
      obtain ⟨hf, h⟩ := need_some (show (T.need _ _).run = some r from h)
      rw [yes_iff] at hf
      refine go_true hp (go_yes hf ?_)
      have hcs := make_ok (c := c.I) (f := f.I) (w := w.L) triesN (ch := firstC w.L) first_ok
      have e : makeF c.I f.I w.L triesN (firstC w.L) = foundC c.I f.I w.L := rfl
      rw [e] at hcs
      rcases hcs with ⟨h0, -, -⟩ | h5 | h9
      · rw [h0] at h ⊢
        exact h
      · rw [h5] at h ⊢
        exact h
      · rw [h9] at h ⊢
        exact h
  · cases h
theorem ok1042 (n : Nat) : FnOK C (n + 5) 42 (mkF s42 G1042) := fn_mono (ok42 (n := n + 4) (ok72 (n := n) (ok72_8 n))) fun ds r h => by
  unfold G1042 at h
  split at h
  · rename_i c f w
    obtain ⟨hp, h⟩ := need_some h
    rw [yes_iff] at hp
    refine go_yes hp ?_
    have hcs := make_ok (c := c.I) (f := f.I) (w := w.L) triesN (ch := firstC w.L) first_ok
    have e : makeF c.I f.I w.L triesN (firstC w.L) = foundC c.I f.I w.L := rfl
    rw [e] at hcs
    rcases hcs with ⟨h0, -, -⟩ | h5 | h9
    · rw [h0] at h ⊢
      exact h
    · rw [h5] at h ⊢
      exact h
    · rw [h9] at h ⊢
      exact h
  · cases h
theorem same_refl (a : List (List D)) : sameR a a = true := by
  unfold sameR
  rw [Bool.and_eq_true, allFrom_iff]
  exact ⟨decide_eq_true rfl, fun j _ _ => beq_self_eq_true _⟩
theorem all_and2 {p q : Nat → Bool} (n : Nat) : allFrom (fun j => p j && q j) 0 n = (allFrom p 0 n && allFrom q 0 n) := by
  rw [Bool.eq_iff_iff, Bool.and_eq_true, allFrom_iff, allFrom_iff, allFrom_iff]
  constructor
  · intro h
    exact ⟨fun j h1 h2 => by have := h j h1 h2; rw [Bool.and_eq_true] at this; exact this.1, fun j h1 h2 => by have := h j h1 h2; rw [Bool.and_eq_true] at this; exact this.2⟩
  · rintro ⟨h1, h2⟩ j h3 h4
    rw [Bool.and_eq_true]
    exact ⟨h1 j h3 h4, h2 j h3 h4⟩
theorem next_all2 (c : Int) (w du : List (List D)) (n : Nat) : allFrom (nextR c w du) 0 (n + 1) = allFrom (nextB c w du) 0 n := by
  rw [Bool.eq_iff_iff, allFrom_iff, allFrom_iff]
  constructor
  · intro h j _ h2
    exact h (j + 1) (Nat.zero_le _) (by omega)
  · intro h j _ h2
    cases j with
    | zero => rfl
    | succ j => exact h j (Nat.zero_le _) (by omega)
theorem fits_both {c f : Int} {w du cl op ch : List (List D)} (hp : planB c f w = true) : fitsP c f w du cl op ch = fitsR c f w du cl op ch := by
  unfold fitsP fitsR
  rw [hp, Bool.true_and, next_all2, all_and2]
theorem law13 {a b c : D} : (fnT C tab13 13 s13 [a, b, c]).run = some [D.b true] := by
  have hbig := big_eq
  refine (t13 a b c).trans ?_
  generalize fnT C tab13 13 s13 [a, b, c] = XX
  refine go_not (fun _ => rfl) fun h1 => ?_
  cases hp : planB a.I b.I c.L with
  | false =>
    refine go_false rfl (go_notF rfl ?_)
    exact go_true rfl (go_yes (by decide) rfl)
  | true =>
    have hf := few_small h1 hp
    have hpl := plan_of hp
    have z1 : Int.toNat 1 = 1 := rfl
    have z2 : ((if true = true then (0 : Int) else 2) == 0) = true := rfl
    simp only [z1, Int.toNat_natCast]
    refine go_true rfl (go_yes hf (go_if (fun h0 => ?_) fun hn0 => go_if (fun h5 => ?_) fun hn5 => ?_))
    · obtain ⟨hc, hd⟩ := found_ok h0
      obtain ⟨l1, l2, l3, l4, e1, e2, e3, e4, l5⟩ := found_lent hp hc hd
      have hfit := (fits_due hp hc.1).trans hd
      have td : (dueL a.I b.I c.L (foundC a.I b.I c.L).2).take (c.L.length + 1) = dueL a.I b.I c.L (foundC a.I b.I c.L).2 := List.take_of_length_le (by omega)
      refine go_notT rfl (go_yes (by trivial) (go_pos h0 (go_true z2 ?_)))
      simp only [e1, e2, e3, e4, td]
      refine go_dec (by omega) (go_dec (by omega) (go_dec (by omega) (go_dec (by omega) (go_dec (by omega) (go_dec (by omega) (go_dec (by omega) (go_dec (by omega) (go_yes ⟨by omega, by omega, by omega, by omega⟩ (go_true (by rw [same_refl, same_refl, same_refl, same_refl]; rfl)
        (go_dec (by omega) (go_dec (by omega) (go_dec (by omega) (go_dec (by omega) (go_yes ⟨by omega, by omega, by omega, by omega⟩ (go_true ((fits_both hp).trans hfit) rfl)))))))))))))))
    · exact go_notT rfl (go_yes (by trivial) (go_neg hn0 (go_pos h5 (go_true z2 (go_yes (by rw [hbig]; decide) rfl)))))
    · exact go_notT rfl (go_yes (by trivial) (go_neg hn0 (go_neg hn5 (go_true z2 (go_yes (by rw [hbig]; decide) rfl)))))
theorem timetableMakes_law : timetableMakesLaw := fun xs hx =>
  law_cases (f := 13) (ks := s13.args) (by kernel_rfl) (ts := [38]) (by kernel_rfl) (of_decide_eq_true (by kernel_rfl)) (m := 3) (by kernel_rfl) (fun ds hl _ => by
      match ds, hl with
      | [a, b, c], _ =>
        exact case_of (sp := sp13) (lp := lp13) (sw := sw13) 12 ⟨ok25 11, ok16, ok2023 5, ok26 10, ok41 6, ok24 11, ok1042 7, ok43 10, ok44 4, trivial⟩ trivial [] (by kernel_rfl) (by kernel_rfl) (fun k hk => by cases hk) law13) 12 xs hx
theorem timetable_makes : Rows.TimetableMakesSaid := timetableMakes_over timetableMakes_law
end Go.Proofs.Ytipbcpobnciccaa
