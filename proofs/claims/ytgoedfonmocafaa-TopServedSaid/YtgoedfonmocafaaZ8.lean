/-
 What the claim top_served rests on, part 8.
-/
import Derived.Test.YtgoedfonmocafaaZ7
namespace Go.Proofs.Ytgoedfonmocafaa
open Go.Lite
set_option linter.unusedVariables false
set_option maxRecDepth 100000
theorem t95 (a b c : D) : fnT C tab95 95 s95 [a, b, c] =
 T.ite (!within a.I (0 : Int) b.I) (T.leaf [D.b true]) (T.ite (decide (b.I > (1000000 : Int))) (T.leaf [D.b true]) (T.leaf [D.b !within c.I (0 : Int) (1000000 : Int)])) := by kernel_rfl
theorem t127 (a : D) : fnT C tab127 127 s127 [a] =
 T.need (yes (a.L.length < big ∧ (a.L.length : Int) = (a.L.length : Int) ∧ (0 : Int) ≤ (0 : Int) ∧ (0 : Int) ≤ (a.L.length : Int))) (T.ite (decide (firstFrom (fun j => !legAt a.L j) (Int.toNat (0 : Int)) (a.L.length - Int.toNat (0 : Int)) ≥ (0 : Int))) (T.leaf [D.i (firstFrom (fun j => !legAt a.L j) (Int.toNat (0 : Int)) (a.L.length - Int.toNat (0 : Int)))]) (T.leaf [D.i (-1 : Int)])) := by kernel_rfl
theorem t127_2 (a b c : D) : roundT C tab127 127 (loopOf C.P 127 2) l127_2 [a, b, c] =
 T.ite (decide (c.I < b.I)) (T.need (decide ((0 : Int) ≤ c.I ∧ c.I < (a.L.length : Int))) (T.ite (!legP (D.I (List.getD (List.getD a.L c.I.toNat []) 0 default)) (D.I (List.getD (List.getD a.L c.I.toNat []) (0 + 1) default)) (D.I (List.getD (List.getD a.L c.I.toNat []) (0 + 1 + 1) default))) (T.leaf (Rd.out Ex.ret [D.i c.I])) (T.leaf (Rd.again [D.l a.L, D.i b.I, D.i (IntKind.i64.wrap (c.I + (1 : Int)))])))) (T.leaf (Rd.out (Ex.exit 0) [])) := by kernel_rfl
theorem t94 (a : D) : fnT C tab94 94 s94 [a] =
 T.need (yes (a.L.length < big)) (T.leaf [D.b (decide (firstFrom (fun j => !legAt a.L j) 0 a.L.length ≥ (0 : Int)))]) := by kernel_rfl
theorem t47 (a b c d : D) : fnT C tab47 47 s47 [a, b, c, d] =
 T.ite (!within a.I (1 : Int) (1000000 : Int)) (T.leaf [D.b false]) (T.ite (!within b.I (0 : Int) a.I) (T.leaf [D.b false]) (T.ite (!within c.I (0 : Int) a.I) (T.leaf [D.b false]) (T.ite (decide ((d.L.length : Int) > (50 : Int))) (T.leaf [D.b false]) (T.need (yes (d.L.length < big)) (T.leaf [D.b !!allFrom (legAt d.L) 0 d.L.length]))))) := by kernel_rfl
theorem t48 (a b c d e : D) : fnT C tab48 48 s48 [a, b, c, d, e] =
 T.need (yes (tankPre a.I b.I d.L e.L ∧ allFrom (amOk d.L e.L) 0 d.L.length = true ∧ bounds a.I c.I c.I ∧ (d.L.length : Int) = (d.L.length : Int) ∧ (0 : Int) ≤ (0 : Int) ∧ (0 : Int) ≤ (d.L.length : Int))) (T.ite (safeFrom a.I b.I d.L e.L (Int.toNat (0 : Int)) (d.L.length - Int.toNat (0 : Int)) c.I c.I) (T.leaf [D.b true]) (T.leaf [D.b false])) := by kernel_rfl
theorem t48_3 (a b c d e f g h : D) : roundT C tab48 48 (loopOf C.P 48 3) l48_3 [a, b, c, d, e, f, g, h] =
 T.ite (decide (h.I < g.I)) (T.need (decide ((0 : Int) ≤ h.I ∧ h.I < (f.L.length : Int))) (T.need (decide ((0 : Int) ≤ h.I ∧ h.I < (c.L.length : Int))) (T.need (decide ((0 : Int) ≤ h.I ∧ h.I < (c.L.length : Int))) (T.ite (decide (IntKind.i64.wrap (e.I + D.I (List.getD (List.getD c.L h.I.toNat []) 0 default)) > a.I)) (T.leaf (Rd.out Ex.ret [D.b false])) (T.ite (decide (IntKind.i64.wrap (IntKind.i64.wrap (d.I + D.I (List.getD (List.getD c.L h.I.toNat []) 0 default)) - D.I (List.getD (List.getD f.L h.I.toNat []) (0 + 1) default)) < b.I)) (T.leaf (Rd.out Ex.ret [D.b false])) (T.leaf (Rd.again [D.i a.I, D.i b.I, D.l c.L, D.i (IntKind.i64.wrap (IntKind.i64.wrap (d.I + D.I (List.getD (List.getD c.L h.I.toNat []) 0 default)) - D.I (List.getD (List.getD f.L h.I.toNat []) (0 + 1) default))), D.i (IntKind.i64.wrap (IntKind.i64.wrap (e.I + D.I (List.getD (List.getD c.L h.I.toNat []) 0 default)) - D.I (List.getD (List.getD f.L h.I.toNat []) 0 default))), D.l f.L, D.i g.I, D.i (IntKind.i64.wrap (h.I + (1 : Int)))]))))))) (T.leaf (Rd.out (Ex.exit 0) [])) := by kernel_rfl
theorem t13 (a b c d : D) : fnT C tab13 13 s13 [a, b, c, d] =
 T.ite (!within a.I (1 : Int) (1000000 : Int)) (T.leaf [D.b false]) (T.ite (!within b.I (0 : Int) a.I) (T.leaf [D.b false]) (T.ite (!within c.I (0 : Int) a.I) (T.leaf [D.b false]) (T.ite (decide ((d.L.length : Int) > (50 : Int))) (T.leaf [D.b false]) (T.need (yes (d.L.length < big ∧ (0 : Int) ≤ (0 : Int) ∧ (0 : Int) ≤ (d.L.length : Int))) (T.ite (allFrom (legAt d.L) (Int.toNat (0 : Int)) (d.L.length - Int.toNat (0 : Int))) (T.leaf [D.b true]) (T.leaf [D.b false])))))) := by kernel_rfl
theorem t13_4 (a b : D) : roundT C tab13 13 (loopOf C.P 13 4) l13_4 [a, b] =
 T.ite (decide (b.I < (a.L.length : Int))) (T.need (decide ((0 : Int) ≤ b.I ∧ b.I < (a.L.length : Int))) (T.ite (decide (D.I (List.getD (List.getD a.L b.I.toNat []) 0 default) < (0 : Int))) (T.leaf (Rd.out Ex.ret [D.b false])) (T.need (decide ((0 : Int) ≤ b.I ∧ b.I < (a.L.length : Int))) (T.need (decide ((0 : Int) ≤ b.I ∧ b.I < (a.L.length : Int))) (T.ite (decide (D.I (List.getD (List.getD a.L b.I.toNat []) 0 default) > D.I (List.getD (List.getD a.L b.I.toNat []) (0 + 1) default))) (T.leaf (Rd.out Ex.ret [D.b false])) (T.need (decide ((0 : Int) ≤ b.I ∧ b.I < (a.L.length : Int))) (T.ite (decide (D.I (List.getD (List.getD a.L b.I.toNat []) (0 + 1) default) > (1000000 : Int))) (T.leaf (Rd.out Ex.ret [D.b false])) (T.need (decide ((0 : Int) ≤ b.I ∧ b.I < (a.L.length : Int))) (T.ite (!within (D.I (List.getD (List.getD a.L b.I.toNat []) (0 + 1 + 1) default)) (0 : Int) (1000000 : Int)) (T.leaf (Rd.out Ex.ret [D.b false])) (T.leaf (Rd.again [D.l a.L, D.i (IntKind.i64.wrap (b.I + (1 : Int)))]))))))))))) (T.leaf (Rd.out (Ex.exit 0) [])) := by kernel_rfl
theorem t14 (a b c d : D) : fnT C tab14 14 s14 [a, b, c, d] =
 T.need (yes (d.L.length < big)) (T.ite (!tankOk a.I b.I c.I d.L) (T.leaf [D.i 0, D.i 2]) (T.need (decide ((0 : Int) ≤ (d.L.length : Int) ∧ (d.L.length : Int) = (d.L.length : Int) ∧ (d.L.length : Int) ≤ (2 : Int) ^ 40 ∧ (↑Try.prog.types[3].bytes : Int) * (d.L.length : Int) ≤ (2 : Int) ^ 46)) (T.need (yes (tankP a.I b.I c.I d.L ∧ (d.L.length : Int) = (d.L.length : Int) ∧ (↑(List.length (List.replicate (Int.toNat (d.L.length : Int)) [D.i 0])) : Int) = (d.L.length : Int) ∧ d.L = d.L ∧ (d.L.length : Int) = (d.L.length : Int) ∧ (0 : Int) ≤ (0 : Int) ∧ (0 : Int) ≤ (d.L.length : Int) ∧ IntKind.i64.wrap (b.I - c.I) = needAt d.L b.I c.I (Int.toNat (0 : Int)) ∧ (0 : Int) = upAt d.L b.I c.I (Int.toNat (0 : Int)) ∧ List.replicate (Int.toNat (d.L.length : Int)) [D.i 0] = upTo d.L b.I c.I (Int.toNat (0 : Int)))) (T.need (yes (tankP a.I b.I c.I d.L ∧ (d.L.length : Int) = (d.L.length : Int) ∧ (↑(Int.toNat (d.L.length : Int)) : Int) = (d.L.length : Int) ∧ (-2 : Int) ≤ IntKind.i64.wrap ((d.L.length : Int) - (2 : Int)) ∧ IntKind.i64.wrap ((d.L.length : Int) - (2 : Int)) ≤ (d.L.length : Int) - (2 : Int) ∧ upTo d.L b.I c.I d.L.length = downTo d.L b.I c.I (IntKind.i64.wrap ((d.L.length : Int) - (2 : Int))))) (T.need (decide ((0 : Int) ≤ (d.L.length : Int) ∧ (d.L.length : Int) = (d.L.length : Int) ∧ (d.L.length : Int) ≤ (2 : Int) ^ 40 ∧ (↑Try.prog.types[3].bytes : Int) * (d.L.length : Int) ≤ (2 : Int) ^ 46)) (T.need (yes (tankP a.I b.I c.I d.L ∧ (↑(List.length (List.replicate (Int.toNat (d.L.length : Int)) [D.i 0])) : Int) = (d.L.length : Int) ∧ (↑(Int.toNat (d.L.length : Int)) : Int) = (d.L.length : Int) ∧ (↑(Int.toNat (d.L.length : Int)) : Int) = (d.L.length : Int) ∧ (0 : Int) ≤ (0 : Int) ∧ (0 : Int) ≤ (d.L.length : Int) ∧ (0 : Int) = beforeAt d.L b.I c.I (Int.toNat (0 : Int)) ∧ List.replicate (Int.toNat (d.L.length : Int)) [D.i 0] = outTo d.L b.I c.I (Int.toNat (0 : Int)) ∧ sums d.L b.I c.I = sums d.L b.I c.I)) (T.ite (allFrom (outOk d.L b.I c.I) (Int.toNat (0 : Int)) (d.L.length - Int.toNat (0 : Int))) (T.need (decide (Int.toNat (d.L.length : Int) ≤ List.length (outs d.L b.I c.I))) (T.need (yes (tankPre a.I b.I d.L (List.take (Int.toNat (d.L.length : Int)) (outs d.L b.I c.I)) ∧ allFrom (amOk d.L (List.take (Int.toNat (d.L.length : Int)) (outs d.L b.I c.I))) 0 d.L.length = true ∧ bounds a.I c.I c.I)) (T.ite (!safeFrom a.I b.I d.L (List.take (Int.toNat (d.L.length : Int)) (outs d.L b.I c.I)) 0 d.L.length c.I c.I) (T.leaf [D.i 0, D.i 5]) (T.leaf [D.i 1, D.i (↑(Int.toNat (d.L.length : Int)) : Int), D.i 0, D.l (outs d.L b.I c.I)])))) (T.leaf [D.i 0, D.i 5])))))))) := by kernel_rfl
theorem t14_8 (a b c d e f g h i j k l : D) : roundT C tab14 14 (loopOf C.P 14 8) l14_8 [a, b, c, d, e, f, g, h, i, j, k, l] =
 T.ite (decide (k.I < j.I)) (T.need (decide ((0 : Int) ≤ k.I ∧ k.I < (i.L.length : Int))) (T.need (decide ((0 : Int) ≤ k.I ∧ k.I < (f.I.toNat : Int))) (T.need (decide (k.I.toNat < l.L.length)) (T.leaf (Rd.again [D.i a.I, D.i b.I, D.i c.I, D.l d.L, D.i e.I, D.i (f.I.toNat : Int), D.i (IntKind.i64.wrap (g.I + D.I (List.getD (List.getD i.L k.I.toNat []) (0 + 1) default))), D.i (maxI h.I (IntKind.i64.wrap (g.I + D.I (List.getD (List.getD i.L k.I.toNat []) (0 + 1) default)))), D.l i.L, D.i j.I, D.i (IntKind.i64.wrap (k.I + (1 : Int))), D.l (List.set l.L k.I.toNat (updC (List.getD l.L k.I.toNat []) [D.i (maxI h.I (IntKind.i64.wrap (g.I + D.I (List.getD (List.getD i.L k.I.toNat []) (0 + 1) default))))] 0 0 (List.length [K.int IntKind.i64])))]))))) (T.leaf (Rd.out (Ex.exit 0) [D.i a.I, D.i b.I, D.i c.I, D.l d.L, D.i e.I, D.i (f.I.toNat : Int), D.l l.L])) := by kernel_rfl
theorem t14_15 (a b c d e f g h : D) : roundT C tab14 14 (loopOf C.P 14 15) l14_15 [a, b, c, d, e, f, g, h] =
 T.ite (decide (g.I ≥ (0 : Int))) (T.need (decide ((0 : Int) ≤ g.I ∧ g.I < (f.I.toNat : Int))) (T.need (decide (g.I.toNat < h.L.length)) (T.need (decide ((0 : Int) ≤ IntKind.i64.wrap (g.I + (1 : Int)) ∧ IntKind.i64.wrap (g.I + (1 : Int)) < (f.I.toNat : Int))) (T.need (decide (Int.toNat (IntKind.i64.wrap (g.I + (1 : Int))) < h.L.length)) (T.need (decide ((0 : Int) ≤ IntKind.i64.wrap (g.I + (1 : Int)) ∧ IntKind.i64.wrap (g.I + (1 : Int)) < (d.L.length : Int))) (T.need (decide ((0 : Int) ≤ g.I ∧ g.I < (f.I.toNat : Int))) (T.need (decide (g.I.toNat < h.L.length)) (T.leaf (Rd.again [D.i a.I, D.i b.I, D.i c.I, D.l d.L, D.i e.I, D.i (f.I.toNat : Int), D.i (IntKind.i64.wrap (g.I - (1 : Int))), D.l (List.set h.L g.I.toNat (updC (List.getD h.L g.I.toNat []) [D.i (maxI (D.I (List.getD (List.getD h.L g.I.toNat []) 0 default)) (IntKind.i64.wrap (D.I (List.getD (List.getD h.L (Int.toNat (IntKind.i64.wrap (g.I + (1 : Int)))) []) 0 default) - D.I (List.getD (List.getD d.L (Int.toNat (IntKind.i64.wrap (g.I + (1 : Int)))) []) (0 + 1 + 1) default))))] 0 0 (List.length [K.int IntKind.i64])))]))))))))) (T.leaf (Rd.out (Ex.exit 2) [D.i a.I, D.i b.I, D.i c.I, D.l d.L, D.i e.I, D.i (f.I.toNat : Int), D.l h.L])) := by kernel_rfl
theorem t14_21 (a b c d e f g h i j k : D) : roundT C tab14 14 (loopOf C.P 14 21) l14_21 [a, b, c, d, e, f, g, h, i, j, k] =
 T.ite (decide (i.I < h.I)) (T.need (decide ((0 : Int) ≤ i.I ∧ i.I < (g.I.toNat : Int))) (T.need (decide (i.I.toNat < k.L.length)) (T.need (decide ((0 : Int) ≤ i.I ∧ i.I < (e.I.toNat : Int))) (T.need (decide (i.I.toNat < j.L.length)) (T.need (decide ((0 : Int) ≤ i.I ∧ i.I < (e.I.toNat : Int))) (T.need (decide (i.I.toNat < List.length (List.set j.L i.I.toNat (updC (List.getD j.L i.I.toNat []) [D.i (IntKind.i64.wrap (D.I (List.getD (List.getD k.L i.I.toNat []) 0 default) - f.I))] 0 0 (List.length [K.int IntKind.i64]))))) (T.need (decide ((0 : Int) ≤ i.I ∧ i.I < (d.L.length : Int))) (T.ite (decide (D.I (List.getD (List.getD (List.set j.L i.I.toNat (updC (List.getD j.L i.I.toNat []) [D.i (IntKind.i64.wrap (D.I (List.getD (List.getD k.L i.I.toNat []) 0 default) - f.I))] 0 0 (List.length [K.int IntKind.i64]))) i.I.toNat []) 0 default) > D.I (List.getD (List.getD d.L i.I.toNat []) (0 + 1 + 1) default))) (T.leaf (Rd.out Ex.ret [D.i 5])) (T.leaf (Rd.again [D.i a.I, D.i b.I, D.i c.I, D.l d.L, D.i (e.I.toNat : Int), D.i (D.I (List.getD (List.getD k.L i.I.toNat []) 0 default)), D.i (g.I.toNat : Int), D.i h.I, D.i (IntKind.i64.wrap (i.I + (1 : Int))), D.l (List.set j.L i.I.toNat (updC (List.getD j.L i.I.toNat []) [D.i (IntKind.i64.wrap (D.I (List.getD (List.getD k.L i.I.toNat []) 0 default) - f.I))] 0 0 (List.length [K.int IntKind.i64]))), D.l k.L])))))))))) (T.leaf (Rd.out (Ex.exit 4) [D.i a.I, D.i b.I, D.i c.I, D.l d.L, D.i (e.I.toNat : Int), D.l j.L])) := by kernel_rfl
theorem ok95 (n : Nat) : FnOK C (n + 2) 95 (mkF s95 G95) := by
 refine fn_of hC (sp := sp95) (lp := lp95) ⟨ok64 n, trivial⟩ (by kernel_rfl) [] (by kernel_rfl) rfl (fun k hk => by cases hk) fun ds r h => ?_
 unfold G95 at h
 split at h
 ·rename_i a b c
  rw [← h]
  refine (congrArg T.run (t95 a b c)).trans ?_
  simp only [run_ite, run_leaf, legP]
  grind
 ·cases h
theorem ok127_2 (n : Nat) : LoopSim C (n + 2) 127 (loopOf C.P 127 2) (mkL l127_2 G127_2) := by
 refine loop_of hC (sp := sp127) (lp := lp127) ⟨ok95 n, trivial⟩ [] (by kernel_rfl) rfl (fun k hk => by cases hk) (by kernel_rfl) (fun ds => ((ds.getD 1 default).I - (ds.getD 2 default).I).toNat) fun ds r h => ?_
 unfold G127_2 at h
 split at h
 ·rename_i l m i
  obtain ⟨hp, h⟩ := need_some h
  rw [yes_iff] at hp
  obtain ⟨h1, h2, h3, h4⟩ := hp
  have hb : big = 4611686018427387904 := rfl
  refine ⟨by rw [fuelC]; simp; omega, ?_⟩
  rw [show roundT C (mkTab sp127 lp127) 127 (loopOf C.P 127 2) l127_2 [l, m, i] = _ from t127_2 l m i]
  obtain ⟨k, hk⟩ : ∃ k : Nat, i.I = k := ⟨i.I.toNat, by omega⟩
  simp only [run_ite, run_need, run_leaf, hk, h2, Int.toNat_natCast] at h h4 ⊢
  refine first_loop (p := fun j => !legAt l.L j) (i := k) (len := l.L.length) [D.l l.L, D.i l.L.length, D.i (k + 1 : Nat)] h ?_ ?_
  ·simp only [wrap_succ (show k < 9223372036854775807 by omega), ix_def, Nat.zero_add, legAt, legOk]
   grind
  ·intro hlt hp hh
   refine ⟨Eq.trans (need_yes (p := _) (t := _) ?_) hh, ?_⟩
   ·simp only [I_i, L_l]
    exact ⟨h1, trivial, by omega, by omega⟩
   ·show ((l.L.length : Int) - ((k + 1 : Nat) : Int)).toNat < (m.I - i.I).toNat
    omega
 ·cases h
theorem ok127 (n : Nat) : FnOK C (n + 3) 127 (mkF s127 G127) := by
 refine fn_of hC (sp := sp127) (lp := lp127) ⟨ok95 n, trivial⟩ (by kernel_rfl) [2] (by kernel_rfl) (by kernel_rfl) (fun k hk L hL => by simp at hk; subst hk; cases hL; exact ok127_2 n) fun ds r h => ?_
 unfold G127 at h
 split at h
 ·rename_i l
  obtain ⟨hp, h⟩ := need_some h
  rw [yes_iff] at hp
  rw [← h]
  refine (congrArg T.run (t127 l)).trans ?_
  refine (need_yes ⟨hp, by omega, by omega, by omega⟩).trans ?_
  simp only [run_ite, run_leaf, Int.toNat_zero, Nat.sub_zero]
  split
  ·rfl
  ·rename_i hc
   have : ¬ firstFrom (fun j => !legAt l.L j) 0 l.L.length ≥ 0 := fun hh => hc (decide_eq_true hh)
   rw [firstFrom_neg (by omega)]
 ·cases h
theorem ok94 (n : Nat) : FnOK C (n + 4) 94 (mkF s94 G94) := by
 refine fn_of hC (sp := sp94) (lp := lp94) ⟨ok127 n, ok95 (n + 1), trivial⟩ (by kernel_rfl) [] (by kernel_rfl) rfl (fun k hk => by cases hk) fun ds r h => ?_
 unfold G94 at h
 split at h
 ·rename_i l
  rw [← h]
  refine (congrArg T.run (t94 l)).trans ?_
  rw [firstFrom_all]
  simp only [Bool.not_not]
 ·cases h
theorem ok47 (n : Nat) : FnOK C (n + 5) 47 (mkF s47 G47) := by
 refine fn_of hC (sp := sp47) (lp := lp47) ⟨ok64 (n + 3), ok94 n, trivial⟩ (by kernel_rfl) [] (by kernel_rfl) rfl (fun k hk => by cases hk) fun ds r h => ?_
 unfold G47 at h
 split at h
 ·rename_i t r s l
  obtain ⟨hp, h⟩ := need_some h
  rw [yes_iff] at hp
  rw [← h]
  refine (congrArg T.run (t47 t r s l)).trans ?_
  simp only [run_ite, run_need, run_leaf, tankOk, yes_true hp, if_true]
  grind
 ·cases h
theorem ok48_3 (n : Nat) : LoopSim C n 48 (loopOf C.P 48 3) (mkL l48_3 G48_3) := by
 refine loop_of hC (sp := sp48) (lp := lp48) trivial [] (by kernel_rfl) rfl (fun k hk => by cases hk) (by kernel_rfl) (fun ds => ((ds.getD 6 default).I - (ds.getD 7 default).I).toNat) fun ds r h => ?_
 unfold G48_3 at h
 split at h
 ·rename_i t r0 am lo hi l m i
  obtain ⟨hp, h⟩ := need_some h
  rw [yes_iff] at hp
  obtain ⟨⟨h11, h12, h13, h14, h15⟩, h2, ⟨h31, h32, h33⟩, h4, h5, h6⟩ := hp
  have hb : big = 4611686018427387904 := rfl
  refine ⟨by rw [fuelC]; simp; omega, ?_⟩
  rw [show roundT C (mkTab sp48 lp48) 48 (loopOf C.P 48 3) l48_3 [t, r0, am, lo, hi, l, m, i] = _ from t48_3 t r0 am lo hi l m i]
  obtain ⟨k, hk⟩ : ∃ k : Nat, i.I = k := ⟨i.I.toNat, by omega⟩
  simp only [run_ite, run_need, run_leaf, hk, h4, Int.toNat_natCast] at h h6 ⊢
  by_cases hlt : k < l.L.length
  ·have hl := allFrom_iff.1 h15 k (Nat.zero_le _) (by omega)
   have ha := allFrom_iff.1 h2 k (Nat.zero_le _) (by omega)
   simp only [amOk, Lite.within_iff] at ha
   simp only [legAt, legOk, legP, Bool.and_eq_true, Lite.within_iff, decide_eq_true_eq] at hl
   obtain ⟨m', hm⟩ : ∃ m', l.L.length - k = m' + 1 := ⟨l.L.length - k - 1, by omega⟩
   have hm' : l.L.length - (k + 1) = m' := by omega
   have d1 : decide ((0 : Int) ≤ (k : Int) ∧ (k : Int) < (l.L.length : Int)) = true := decide_eq_true ⟨by omega, by omega⟩
   have d2 : decide ((0 : Int) ≤ (k : Int) ∧ (k : Int) < (am.L.length : Int)) = true := decide_eq_true ⟨by omega, by omega⟩
   have d0 : decide ((k : Int) < (l.L.length : Int)) = true := decide_eq_true (by omega)
   simp only [hm, safeFrom] at h
   simp only [d0, d1, d2, if_true, ix_def, Nat.zero_add, wrap_succ (show k < 9223372036854775807 by omega)]
   simp only [wrap_id (x := hi.I + ix (am.L.getD k []) 0) (by omega) (by omega), wrap_id (x := lo.I + ix (am.L.getD k []) 0) (by omega) (by omega), wrap_id (x := lo.I + ix (am.L.getD k []) 0 - ix (l.L.getD k []) 1) (by omega) (by omega), wrap_id (x := hi.I + ix (am.L.getD k []) 0 - ix (l.L.getD k []) 0) (by omega) (by omega)]
   by_cases c1 : hi.I + ix (am.L.getD k []) 0 > t.I
   ·simp only [c1, if_true, Bool.false_eq_true, if_false, Option.some.injEq] at h
    simp only [c1, decide_true, if_true]
    subst h
    exact out_ok rfl
   ·by_cases c2 : lo.I + ix (am.L.getD k []) 0 - ix (l.L.getD k []) 1 < r0.I
    ·simp only [c1, c2, if_true, Bool.false_eq_true, if_false, Option.some.injEq] at h
     simp only [c1, c2, decide_true, decide_false, if_true, Bool.false_eq_true, if_false]
     subst h
     exact out_ok rfl
    ·simp only [c1, c2, decide_false, Bool.false_eq_true, if_false] at h ⊢
     refine again_ok rfl ?_ ?_
     ·refine (need_yes ⟨⟨h11, h12, h13, h14, h15⟩, h2, ⟨by simp only [I_i]; omega, by simp only [I_i]; omega, by simp only [I_i]; omega⟩, by simp only [I_i, L_l], by simp only [I_i]; omega, by simp only [I_i]; omega⟩).trans ?_
      simp only [I_i, L_l, Int.toNat_natCast, hm', run_ite, run_leaf]
      exact h
     ·show ((l.L.length : Int) - ((k + 1 : Nat) : Int)).toNat < (m.I - i.I).toNat
      omega
  ·rw [show l.L.length - k = 0 by omega] at h
   simp only [safeFrom, if_true, Option.some.injEq] at h
   subst h
   rw [if_neg (by simpa using hlt)]
   exact out_ok rfl
 ·cases h
theorem ok48 (n : Nat) : FnOK C (n + 1) 48 (mkF s48 G48) := by
 refine fn_of hC (sp := sp48) (lp := lp48) trivial (by kernel_rfl) [3] (by kernel_rfl) (by kernel_rfl) (fun k hk L hL => by simp at hk; subst hk; cases hL; exact ok48_3 n) fun ds r h => ?_
 unfold G48 at h
 split at h
 ·rename_i t r0 s l am
  obtain ⟨hp, h⟩ := need_some h
  rw [yes_iff] at hp
  rw [← h]
  refine (congrArg T.run (t48 t r0 s l am)).trans ?_
  refine (need_yes ⟨hp.1, hp.2.1, hp.2.2, rfl, by omega, by omega⟩).trans ?_
  simp only [run_ite, run_leaf, Int.toNat_zero, Nat.sub_zero]
  split <;> rename_i hc <;> simp [hc]
 ·cases h
theorem ok13_4 (n : Nat) : LoopSim C (n + 1) 13 (loopOf C.P 13 4) (mkL l13_4 G13_4) := by
 refine loop_of hC (sp := sp13) (lp := lp13) ⟨ok46 n, trivial⟩ [] (by kernel_rfl) rfl (fun k hk => by cases hk) (by kernel_rfl) (fun ds => (((ds.getD 0 default).L.length : Int) - (ds.getD 1 default).I).toNat) fun ds r h => ?_
 unfold G13_4 at h
 split at h
 ·rename_i l i
  obtain ⟨hp, h⟩ := need_some h
  rw [yes_iff] at hp
  obtain ⟨h1, h2, h3⟩ := hp
  have hb : big = 4611686018427387904 := rfl
  refine ⟨by rw [fuelC]; simp; omega, ?_⟩
  rw [show roundT C (mkTab sp13 lp13) 13 (loopOf C.P 13 4) l13_4 [l, i] = _ from t13_4 l i]
  obtain ⟨k, hk⟩ : ∃ k : Nat, i.I = k := ⟨i.I.toNat, by omega⟩
  simp only [run_ite, run_need, run_leaf, hk, Int.toNat_natCast] at h h3 ⊢
  refine all_loop (p := legAt l.L) (i := k) (len := l.L.length) [D.l l.L, D.i (k + 1 : Nat)] h ?_ ?_
  ·simp only [wrap_succ (show k < 9223372036854775807 by omega), ix_def, Nat.zero_add, legAt, legOk, legP, within]
   grind
  ·intro hlt hp hh
   refine ⟨Eq.trans (need_yes (p := _) (t := _) ?_) hh, ?_⟩
   ·simp only [I_i, L_l]
    exact ⟨h1, by omega, by omega⟩
   ·show ((l.L.length : Int) - ((k + 1 : Nat) : Int)).toNat < ((l.L.length : Int) - i.I).toNat
    omega
 ·cases h
theorem ok13 (n : Nat) : FnOK C (n + 2) 13 (mkF s13 G13) := by
 refine fn_of hC (sp := sp13) (lp := lp13) ⟨ok46 n, trivial⟩ (by kernel_rfl) [4] (by kernel_rfl) (by kernel_rfl) (fun k hk L hL => by simp at hk; subst hk; cases hL; exact ok13_4 n) fun ds r h => ?_
 unfold G13 at h
 split at h
 ·rename_i t r0 s l
  rw [← h]
  refine (congrArg T.run (t13 t r0 s l)).trans ?_
  have hb : big = 4611686018427387904 := rfl
  simp only [run_ite, run_need, run_leaf, tankOk, yes_iff, Int.toNat_zero, Nat.sub_zero]
  grind
 ·cases h
theorem ok31_4 (n : Nat) : LoopSim C (n + 5) 31 (loopOf C.P 31 4) (mkL l31_4 G31_4) := by
 refine loop_of hC (sp := sp31) (lp := lp31) ⟨ok47 n, ok64 (n + 4), ok48 (n + 4), trivial⟩ [] (by kernel_rfl) rfl (fun k hk => by cases hk) (by kernel_rfl) (fun ds => ((ds.getD 6 default).I - (ds.getD 7 default).I).toNat) fun ds r h => ?_
 unfold G31_4 at h
 split at h
 ·rename_i t r0 s l am a2 m i
  obtain ⟨hp, h⟩ := need_some h
  rw [yes_iff] at hp
  obtain ⟨h1, h2, h3, h4, h5, h6⟩ := hp
  have hb : big = 4611686018427387904 := rfl
  refine ⟨by rw [fuelC]; simp; omega, ?_⟩
  rw [show roundT C (mkTab sp31 lp31) 31 (loopOf C.P 31 4) l31_4 [t, r0, s, l, am, a2, m, i] = _ from t31_4 t r0 s l am a2 m i]
  obtain ⟨k, hk⟩ : ∃ k : Nat, i.I = k := ⟨i.I.toNat, by omega⟩
  simp only [run_ite, run_need, run_leaf, hk, h1, h4, Int.toNat_natCast] at h h6 ⊢
  refine all_loop (p := amOk l.L am.L) (i := k) (len := am.L.length) [D.i t.I, D.i r0.I, D.i s.I, D.l l.L, D.l am.L, D.l am.L, D.i am.L.length, D.i (k + 1 : Nat)] h ?_ ?_
  ·simp only [amOk, wrap_succ (show k < 9223372036854775807 by omega), ix_def, Nat.zero_add]
   grind
  ·intro hlt hp hh
   refine ⟨Eq.trans (need_yes (p := _) (t := _) ?_) hh, ?_⟩
   ·simp only [I_i, L_l]
    exact ⟨trivial, h2, h3, trivial, by omega, by omega⟩
   ·show ((am.L.length : Int) - ((k + 1 : Nat) : Int)).toNat < (m.I - i.I).toNat
    omega
 ·cases h
theorem ok31 (n : Nat) : FnOK C (n + 6) 31 (mkF s31 G31) := by
 refine fn_of hC (sp := sp31) (lp := lp31) ⟨ok47 n, ok64 (n + 4), ok48 (n + 4), trivial⟩ (by kernel_rfl) [4] (by kernel_rfl) (by kernel_rfl) (fun k hk L hL => by simp at hk; subst hk; cases hL; exact ok31_4 n) fun ds r h => ?_
 unfold G31 at h
 split at h
 ·rename_i t r0 s l am
  obtain ⟨hp, h⟩ := need_some h
  rw [yes_iff] at hp
  rw [← h]
  refine (congrArg T.run (t31 t r0 s l am)).trans ?_
  simp only [run_ite, run_need, run_leaf, yes_true hp.1, if_true, Int.toNat_zero, Nat.sub_zero, yes_iff]
  have e1 : ((am.L.length : Int) = l.L.length) ↔ am.L.length = l.L.length := Int.ofNat_inj
  by_cases c1 : tankOk t.I r0.I s.I l.L = true
  ·have c1' := c1
   simp only [tankOk, Bool.and_eq_true, Lite.within_iff, decide_eq_true_eq] at c1'
   have hpre : am.L.length = l.L.length → tankPre t.I r0.I l.L am.L := fun he => ⟨by omega, by omega, he, by omega, c1'.2⟩
   have hbd : bounds t.I s.I s.I := ⟨by omega, by omega, by omega⟩
   by_cases hlen : am.L.length = l.L.length
   ·have hpr := hpre hlen
    simp only [hlen, c1]
    by_cases c2 : allFrom (amOk l.L am.L) 0 l.L.length = true
    ·simp [c2, hpr, hbd, hp.1, yes_iff]
    ·simp [c2, hp.1]
   ·simp [hlen, c1, e1]
  ·simp [c1]
 ·cases h
set_option maxRecDepth 100000
theorem bits_in {s : Nat} : ∀ k i, ∀ x ∈ bitsFrom s i k, (i : Int) ≤ x ∧ x < i + k
 | 0, _, _, h => by cases h
 | k + 1, i, x, h => by
   simp only [bitsFrom] at h
   split at h
   ·rcases List.mem_cons.1 h with rfl | h
    ·omega
    ·have := bits_in k (i + 1) x h
     omega
   ·have := bits_in k (i + 1) x h
    omega
theorem bits_append (s : Nat) : ∀ a b i, bitsFrom s i (a + b) = bitsFrom s i a ++ bitsFrom s (i + a) b
 | 0, b, i => by simp [bitsFrom]
 | a + 1, b, i => by
   rw [show a + 1 + b = (a + b) + 1 by omega]
   simp only [bitsFrom]
   rw [bits_append s a b (i + 1), show i + 1 + a = i + (a + 1) by omega]
   split <;> simp
theorem bits_n {s n : Nat} (hs : s < 2 ^ n) (hn : n ≤ 20) : bitsL s = bitsFrom s 0 n := by
 unfold bitsL
 have e : bitsFrom s (0 + n) (20 - n) = [] := no_bits (i := n) (Nat.not_le.2 hs) _ _ (by omega)
 have e2 := bits_append s n (20 - n) 0
 rw [show n + (20 - n) = 20 by omega, e, List.append_nil] at e2
 exact e2
theorem mem_bits {s : Nat} {x : Int} : ∀ k i, x ∈ bitsFrom s i k ↔ ∃ j : Nat, i ≤ j ∧ j < i + k ∧ x = j ∧ s.testBit j = true
 | 0, i => by
   simp only [bitsFrom, List.not_mem_nil, false_iff]
   rintro ⟨j, h1, h2, _⟩
   omega
 | k + 1, i => by
   have ih := mem_bits (s := s) (x := x) k (i + 1)
   simp only [bitsFrom]
   split
   ·rename_i hb
    rw [List.mem_cons, ih]
    constructor
    ·rintro (rfl | ⟨j, h1, h2, h3, h4⟩)
     ·exact ⟨i, by omega, by omega, rfl, hb⟩
     ·exact ⟨j, by omega, by omega, h3, h4⟩
    ·rintro ⟨j, h1, h2, h3, h4⟩
     by_cases hj : j = i
     ·subst hj; exact .inl h3
     ·exact .inr ⟨j, by omega, by omega, h3, h4⟩
   ·rename_i hb
    rw [ih]
    constructor
    ·rintro ⟨j, h1, h2, h3, h4⟩
     exact ⟨j, by omega, by omega, h3, h4⟩
    ·rintro ⟨j, h1, h2, h3, h4⟩
     by_cases hj : j = i
     ·subst hj; exact absurd h4 hb
     ·exact ⟨j, by omega, by omega, h3, h4⟩
theorem bits_sorted {s : Nat} : ∀ k i, (bitsFrom s i k).Pairwise (· < ·)
 | 0, _ => List.Pairwise.nil
 | k + 1, i => by
   have ih := bits_sorted (s := s) k (i + 1)
   simp only [bitsFrom]
   split
   ·refine List.pairwise_cons.2 ⟨fun x hx => ?_, ih⟩
    have := bits_in k (i + 1) x hx
    omega
   ·exact ih
theorem ix_mkI (A : List Int) (j : Nat) : ix ((mkI A).getD j []) 0 = A.getD j 0 := by
 unfold mkI
 rw [List.getD_eq_getElem?_getD, List.getElem?_map, List.getD_eq_getElem?_getD]
 cases A[j]? <;> rfl
theorem needs_jobs {l : List (List D)} (h : jobsOk l = true) : needsOk l = true := by
 obtain ⟨h1, h2⟩ := jobs_of h
 simp only [needsOk, Bool.and_eq_true, decide_eq_true_eq, allFrom_iff, fewNeeds]
 exact ⟨fun i _ hi => by have := (h2 i (by omega)).2.1; omega, by omega⟩
theorem setTo_bit {ch : List (List D)} {j : Nat} : ∀ k, (setTo ch k).testBit j = true ↔ ∃ i, i < k ∧ (ix (ch.getD i []) 0).toNat = j
 | 0 => by simp [setTo]
 | k + 1 => by
   simp only [setTo, Nat.testBit_or, Bool.or_eq_true, setTo_bit k, Nat.testBit_two_pow, decide_eq_true_eq]
   constructor
   ·rintro (⟨i, h1, h2⟩ | h)
    ·exact ⟨i, by omega, h2⟩
    ·exact ⟨k, by omega, h⟩
   ·rintro ⟨i, h1, h2⟩
    by_cases hi : i = k
    ·subst hi; exact .inr h2
    ·exact .inl ⟨i, by omega, h2⟩
theorem setTo_lt {ch : List (List D)} {m : Nat} : ∀ k, (∀ i, i < k → (ix (ch.getD i []) 0).toNat < m) → setTo ch k < 2 ^ m
 | 0, _ => Nat.two_pow_pos m
 | k + 1, h => Nat.or_lt_two_pow (setTo_lt k fun i hi => h i (by omega)) (Nat.pow_lt_pow_right (by omega) (h k (by omega)))
theorem setTo_bits {s n : Nat} (hs : s < 2 ^ n) (hn : n ≤ 20) : setTo (mkI (bitsL s)) (mkI (bitsL s)).length = s := by
 refine Nat.eq_of_testBit_eq fun j => ?_
 rw [Bool.eq_iff_iff, setTo_bit, len_mkI, bits_n hs hn]
 constructor
 ·rintro ⟨i, hi, hj⟩
  rw [ix_mkI] at hj
  have e : (bitsFrom s 0 n).getD i 0 = (bitsFrom s 0 n)[i] := by simp [List.getD_eq_getElem?_getD, hi]
  rw [e] at hj
  obtain ⟨q, -, -, hq, hb⟩ := (mem_bits n 0).1 (List.getElem_mem hi)
  rw [hq, Int.toNat_natCast] at hj
  rw [← hj]; exact hb
 ·intro hb
  have hj : j < n := Classical.byContradiction fun hh => by
   have : s.testBit j = false := Nat.testBit_lt_two_pow (Nat.lt_of_lt_of_le hs (Nat.pow_le_pow_right (by omega) (by omega)))
   rw [this] at hb; cases hb
  have hm : (j : Int) ∈ bitsFrom s 0 n := (mem_bits n 0).2 ⟨j, by omega, by omega, rfl, hb⟩
  obtain ⟨i, hi, he⟩ := List.getElem_of_mem hm
  refine ⟨i, hi, ?_⟩
  rw [ix_mkI]
  have e : (bitsFrom s 0 n).getD i 0 = (bitsFrom s 0 n)[i] := by simp [List.getD_eq_getElem?_getD, hi]
  rw [e, he, Int.toNat_natCast]
theorem cho_bits {l : List (List D)} {s : Nat} (hs : s < 2 ^ l.length) (hn : l.length ≤ 20) : allFrom (choAt l (mkI (bitsL s))) 0 (mkI (bitsL s)).length = true := by
 rw [allFrom_iff]
 intro j _ hj
 rw [Nat.zero_add, len_mkI] at hj
 have e : ∀ i, i < (bitsL s).length → (bitsL s).getD i 0 = (bitsL s)[i]! := fun i hi => by simp [List.getD_eq_getElem?_getD, hi]
 have hb := bits_n hs hn
 have hin : ∀ i, (hi : i < (bitsL s).length) → 0 ≤ (bitsL s)[i] ∧ (bitsL s)[i] < l.length := fun i hi => by
  have := bits_in (s := s) l.length 0 ((bitsL s)[i]) (by rw [← hb]; exact List.getElem_mem hi)
  omega
 have g : ∀ i, (hi : i < (bitsL s).length) → ix ((mkI (bitsL s)).getD i []) 0 = (bitsL s)[i] := fun i hi => by
  rw [ix_mkI, List.getD_eq_getElem?_getD, List.getElem?_eq_getElem hi]; rfl
 unfold choAt
 rw [Bool.and_eq_true, Lite.within_iff, Bool.or_eq_true, decide_eq_true_eq, decide_eq_true_eq, g j hj]
 have h1 := hin j hj
 refine ⟨by omega, ?_⟩
 by_cases h0 : j = 0
 ·exact .inl h0
 ·right
  rw [g (j - 1) (by omega)]
  have hp : (bitsL s).Pairwise (· < ·) := by rw [hb]; exact bits_sorted _ _
  exact List.pairwise_iff_getElem.1 hp (j - 1) j (by omega) hj (by omega)
theorem or_eq {s x : Int} {k n : Nat} (hs : s = (k : Nat)) (hk : k < 1048576) (hx : x.toNat = n) (hn : n < 20) : IntKind.wrap IntKind.u64 ((BitVec.toNat (BitVec.ofInt (IntKind.bits IntKind.u64) s ||| BitVec.ofInt (IntKind.bits IntKind.u64) (IntKind.wrap IntKind.u64 (1 * 2 ^ min x.toNat (IntKind.bits IntKind.u64)))) : Nat) : Int) = ((k ||| 2 ^ n : Nat) : Int) := by
 have e : IntKind.bits IntKind.u64 = 64 := rfl
 have hp : 2 ^ n < 1048576 := Nat.lt_of_lt_of_le (Nat.pow_lt_pow_right (by omega) hn) (by decide)
 have ho : k ||| 2 ^ n < 1048576 := Nat.or_lt_two_pow (n := 20) hk hp
 have e2 : (1 : Int) * 2 ^ n = ((2 ^ n : Nat) : Int) := by simp
 have e3 : ∀ q : Nat, q < 1048576 → IntKind.wrap IntKind.u64 (q : Int) = q := fun q hq => wrap_u64 (by omega) (by omega)
 rw [hs, hx, e, Nat.min_eq_left (by omega), e2, e3 _ hp, BitVec.toNat_or, BitVec.ofInt_natCast, BitVec.ofInt_natCast, BitVec.toNat_ofNat, BitVec.toNat_ofNat,
  Nat.mod_eq_of_lt (Nat.lt_trans hk (by decide)), Nat.mod_eq_of_lt (Nat.lt_trans hp (by decide))]
 exact e3 _ ho
theorem ok29_5 (n : Nat) : LoopSim C (n + 3) 29 (loopOf C.P 29 5) (mkL l29_5 G29_5) := by
 refine loop_ofK hC (sp := sp29) (lp := lp29) (sw := sw29) ⟨ok73 (n + 1), ok64 (n + 2), ok77 (n + 2), trivial⟩ trivial 0 [] (by kernel_rfl) rfl (fun k hk => by cases hk) (by kernel_rfl) (fun ds => ((ds.getD 5 default).I - (ds.getD 6 default).I).toNat) fun ds rr h => ?_
 unfold G29_5 at h
 split at h
 ·rename_i l m ch s ch' q i
  obtain ⟨hp, h⟩ := need_some h
  rw [yes_iff] at hp
  obtain ⟨h1, h2, h3, h4, h5, i0, i1, hs⟩ := hp
  have hl := (jobs_of h1).1
  refine ⟨by rw [fuelC]; show (q.I - i.I).toNat < _; omega, ?_⟩
  rw [show roundTK C (mkTab sp29 lp29 sw29) 29 (loopOf C.P 29 5) 0 l29_5 [l, m, ch, s, ch', q, i] = _ from t29_5 l m ch s ch' q i]
  obtain ⟨x, hx⟩ : ∃ x : Nat, i.I = x := ⟨i.I.toNat, by omega⟩
  rw [hx, Int.toNat_natCast] at hs
  have e1 : IntKind.i64.wrap ((l.L.length : Int) - 1) = (l.L.length : Int) - 1 := wrap_id (by omega) (by omega)
  simp only [hx, h2, h3, e1, Int.toNat_natCast, ix_def] at h i0 i1 ⊢
  have hin : ∀ j, j < ch.L.length → 0 ≤ ix (ch.L.getD j []) 0 ∧ ix (ch.L.getD j []) 0 ≤ l.L.length - 1 ∧ (j = 0 ∨ ix (ch.L.getD (j - 1) []) 0 < ix (ch.L.getD j []) 0) := fun j hj => by
   have := allFrom_iff.1 h5 j (Nat.zero_le _) (by omega)
   simp only [choAt, Bool.and_eq_true, Lite.within_iff, Bool.or_eq_true, decide_eq_true_eq] at this
   exact ⟨this.1.1, this.1.2, this.2⟩
  have hlt : setTo ch.L x < 1048576 := setTo_lt (m := 20) x fun j hj => by have := hin j (by omega); omega
  refine rd_if (fun hc => ?_) fun hc => ?_
  ·have hxl : x < ch.L.length := by omega
   obtain ⟨g1, g2, g3⟩ := hin x hxl
   have w1 : IntKind.i64.wrap ((x : Int) + 1) = ((x + 1 : Nat) : Int) := wrap_succ (by omega)
   have eo := or_eq (s := s.I) (x := ix (ch.L.getD x []) 0) hs hlt rfl (by omega)
   have hw : within (ix (ch.L.getD x []) 0) 0 ((l.L.length : Int) - 1) = true := Lite.within_iff.2 ⟨g1, g2⟩
   have fin : RdOK G29_5 (fun ds => ((ds.getD 5 default).I - (ds.getD 6 default).I).toNat) [l, m, ch, s, ch', q, i] rr
       (T.leaf (Rd.again [D.l l.L, D.i m.I, D.l ch.L, D.i ((setTo ch.L x ||| 2 ^ (ix (ch.L.getD x []) 0).toNat : Nat) : Int), D.l ch.L, D.i (ch.L.length : Int), D.i ((x + 1 : Nat) : Int)])).run :=
    rd_again ((need_yes ⟨h1, by trivial, by trivial, h4, h5, by simp only [I_i]; omega, by simp only [I_i]; omega, by simp only [I_i, L_l, Int.toNat_natCast]; rfl⟩).trans h) (by
     show ((ch.L.length : Int) - ((x + 1 : Nat) : Int)).toNat < (q.I - i.I).toNat
     omega)
   rw [eo, w1]
   have ei : (!decide (ix (ch.L.getD x []) 0 < 0)) = true := by rw [decide_eq_false (by omega)]; rfl
   refine rd_dec (by omega) (rd_not (fun c => by rw [hw] at c; cases c) fun _ => rd_if (fun h0 => ?_) fun h0 => rd_need ei fin)
   have w0 : IntKind.i64.wrap ((x : Int) - 1) = (x : Int) - 1 := wrap_id (by omega) (by omega)
   have e0 : ((x : Int) - 1).toNat = x - 1 := by omega
   rw [w0, e0]
   refine rd_dec (by omega) (rd_neg (by omega) (rd_need ei fin))
  ·have : x = ch.L.length := by omega
   subst this
   rw [hs]
   exact rd_out h
 ·cases h
theorem ok29 (n : Nat) : FnOK C (n + 4) 29 (mkF s29 G29) := by
 refine fn_ofS hC (sp := sp29) (lp := lp29) (sw := sw29) ⟨ok73 (n + 1), ok64 (n + 2), ok77 (n + 2), trivial⟩ trivial (by kernel_rfl) [5] (by kernel_rfl) (by kernel_rfl) (fun k hk L hL => by simp at hk; subst hk; cases hL; exact ok29_5 n) fun ds rr h => ?_
 unfold G29 at h
 split at h
 ·rename_i l m ch
  obtain ⟨hp, h⟩ := need_some h
  rw [yes_iff] at hp
  obtain ⟨⟨h1, h2⟩, h4, h5⟩ := hp
  have hl := (jobs_of h1).1
  have hlt : setTo ch.L ch.L.length < 1048576 := setTo_lt (m := 20) _ fun j hj => by
   have := allFrom_iff.1 h5 j (Nat.zero_le _) (by omega)
   simp only [choAt, Bool.and_eq_true, Lite.within_iff] at this
   omega
  refine (congrArg T.run (t29 l m ch)).trans ?_
  refine go_yes (needs_jobs h1) (go_notT h1 (go_notT (Lite.within_iff.2 h2) (go_yes ⟨h1, by trivial, by trivial, h4, h5, by omega, by omega, by rfl⟩ (go_yes ⟨h1, by omega, by omega⟩ ?_))))
  rw [Int.toNat_natCast]
  refine go_not (fun c => ?_) fun c => ?_
  ·rw [run_ite, c] at h; exact h
  ·rw [run_ite, c] at h; exact h
 ·cases h
theorem best_ok {l : List (List D)} {m : Int} : ∀ k s b, s + k ≤ 2 ^ l.length → (∀ r, b = some r → ∃ x : Nat, x < 2 ^ l.length ∧ worthOk l m x = true ∧ ix r 0 = x) → ∀ r, bestFrom l m s k b = some r → ∃ x : Nat, x < 2 ^ l.length ∧ worthOk l m x = true ∧ ix r 0 = x
 | 0, _, _, _, h, r, hr => h r hr
 | k + 1, s, b, hk, h, r, hr => by
   simp only [bestFrom] at hr
   refine best_ok k (s + 1) _ (by omega) (fun q hq => ?_) r hr
   unfold bestStep at hq
   split at hq
   ·rename_i hw
    have hs : ∃ x : Nat, x < 2 ^ l.length ∧ worthOk l m x = true ∧ ix (rowS s (worthOf l s).1 (worthOf l s).2.1) 0 = x := ⟨s, by omega, hw, rfl⟩
    injection hq with hq
    subst hq
    split
    ·exact hs
    ·split
     ·exact hs
     ·exact h _ rfl
   ·exact h q hq
theorem best_all {l : List (List D)} {m : Int} {r : List D} (h : bestAll l m = some r) : ∃ x : Nat, x < 2 ^ l.length ∧ worthOk l m x = true ∧ ix r 0 = x :=
 best_ok _ 0 none (by omega) (fun r hr => by cases hr) r h
set_option maxRecDepth 100000
theorem ok24_4 (n : Nat) (h66 : FnOK C n 66 (mkF s66 G66)) : LoopSim C n 24 (loopOf C.P 24 4) (mkL l24_4 G24_4) := by
 refine loop_ofK hC (sp := sp24) (lp := lp24) (sw := sw24) ⟨h66, trivial⟩ trivial 0 [] (by kernel_rfl) rfl (fun k hk => by cases hk) (by kernel_rfl) (fun ds => (((ds.getD 3 default).L.length : Int) - (ds.getD 0 default).I).toNat) fun ds rr h => ?_
 unfold G24_4 at h
 split at h
 ·rename_i i c f w
  obtain ⟨hp, h⟩ := need_some h
  rw [yes_iff] at hp
  obtain ⟨i0, i1, hl⟩ := hp
  refine ⟨by rw [fuelC]; show ((w.L.length : Int) - i.I).toNat < _; omega, ?_⟩
  rw [show roundTK C (mkTab sp24 lp24 sw24) 24 (loopOf C.P 24 4) 0 l24_4 [i, c, f, w] = _ from t24_4 i c f w]
  obtain ⟨x, hx⟩ : ∃ x : Nat, i.I = x := ⟨i.I.toNat, by omega⟩
  simp only [hx, Int.toNat_natCast, Nat.reduceAdd, lx_def] at h i0 i1 ⊢
  refine rd_if (fun hlt => ?_) fun hge => rd_out (all_end h (by omega))
  obtain ⟨s1, s2⟩ := all_step h (show x < w.L.length by omega)
  refine rd_dec (by omega) (rd_if (fun c => rd_out (s1 ?_)) fun c => ?_)
  ·exact decide_eq_false (by omega)
  ·rw [wrap_succ (by omega)]
   exact rd_again ((need_yes ⟨by simp only [I_i]; omega, by simp only [I_i, L_l]; omega, hl⟩).trans (s2 (decide_eq_true (by omega)))) (show ((w.L.length : Int) - ((x + 1 : Nat) : Int)).toNat < ((w.L.length : Int) - i.I).toNat by omega)
 ·cases h
theorem ok24 (n : Nat) (h66 : FnOK C n 66 (mkF s66 G66)) : FnOK C (n + 1) 24 (mkF s24 G24) := by
 refine fn_ofS hC (sp := sp24) (lp := lp24) (sw := sw24) ⟨h66, trivial⟩ trivial (by kernel_rfl) [4] (by kernel_rfl) (by kernel_rfl) (fun k hk L hL => by simp at hk; subst hk; cases hL; exact ok24_4 n h66) fun ds rr h => ?_
 unfold G24 at h
 split at h
 ·rename_i c f w
  refine (congrArg T.run (t24 c f w)).trans ?_
  rw [← h]
  simp only [Int.toNat_zero, Nat.sub_zero]
  unfold planS
  refine go_if (fun c6 => ?_) fun c6 => go_yes ⟨by omega, by omega, by omega⟩ (go_ite (fun c7 => ?_) fun c7 => ?_)
  ·rw [decide_eq_false (by omega), Bool.false_and, Bool.false_and]
  ·rw [c7, decide_eq_true (show w.L.length ≤ 6 by omega), Bool.and_self, Bool.true_and]
  ·rw [c7, Bool.and_false, Bool.false_and]
 ·cases h
noncomputable def sp25 : SpL := [(67, mkF s67 G67), (68, mkF s68 G68)]
noncomputable def lp25 : LpL := []
noncomputable def sw25 : SwL := []
noncomputable def tab25 : Tab := mkTab sp25 lp25 sw25
set_option linter.unusedVariables false
set_option maxRecDepth 100000
theorem t25 : fnT C tab25 25 s25 [] =
 T.need true (T.need (yes (List.length (List.take (List.length [[D.i 0, D.i 1, D.i 5]]) [[D.i 0, D.i 1, D.i 5]]) < big)) (T.ite true (T.ite true (T.ite true (T.need true (T.need true (T.need (yes (List.length (List.take (Int.toNat (2 : Int)) (rs (zeros (2 : Int)) (Int.toNat (lkT (allL (2 : Int) (List.take (List.length [[D.i 0, D.i 1, D.i 5]]) [[D.i 0, D.i 1, D.i 5]])) 0)) (rg (zeros (2 : Int)) (Int.toNat (lkF (allL (2 : Int) (List.take (List.length [[D.i 0, D.i 1, D.i 5]]) [[D.i 0, D.i 1, D.i 5]])) 0)) + lkW (allL (2 : Int) (List.take (List.length [[D.i 0, D.i 1, D.i 5]]) [[D.i 0, D.i 1, D.i 5]])) 0))) < big)) (T.leaf [D.b true])))) (T.leaf [D.b false])) (T.ite false (T.need true (T.need (yes (List.length ([] : List (List D)) < big)) (T.leaf [D.b false]))) (T.leaf [D.b false]))) (T.ite false (T.need true (T.need (yes (List.length ([] : List (List D)) < big)) (T.leaf [D.b false]))) (T.leaf [D.b false])))) := by kernel_rfl
set_option maxRecDepth 100000
theorem ok25 (n : Nat) : FnOK C (n + 7) 25 (mkF s25 G25) := by
 refine fn_ofS hC (sp := sp25) (lp := lp25) (sw := sw25) ⟨ok67 n, ok68 (n + 5), trivial⟩ trivial (by kernel_rfl) [] (by kernel_rfl) rfl (fun k hk => by cases hk) fun ds rr h => ?_
 unfold G25 at h
 split at h
 ·refine (congrArg T.run t25).trans ?_
  refine go_need rfl (go_yes (of_decide_eq_true (by kernel_rfl)) (go_true rfl (go_true rfl (go_true rfl (go_need rfl (go_need rfl (go_yes (of_decide_eq_true (by kernel_rfl)) ?_)))))))
  exact h
 ·cases h
theorem len_tabI (n : Nat) (f : Nat → Int) : (tabI n f).length = n := by simp [tabI, mkI]
theorem tabI_congr {n : Nat} {f g : Nat → Int} (h : ∀ j, j < n → f j = g j) : tabI n f = tabI n g := by
 unfold tabI
 congr 1
 exact List.map_congr_left fun j hj => h j (List.mem_range.1 hj)
theorem tabI_get {n : Nat} {f : Nat → Int} {j : Nat} (h : j < n) : (tabI n f).getD j [] = [.i (f j)] := by
 simp [tabI, mkI, List.getD_eq_getElem?_getD, h]
theorem tabI_set {n : Nat} {f : Nat → Int} {i : Nat} {v : Int} : (tabI n f).set i [.i v] = tabI n fun j => if j = i then v else f j := by
 apply List.ext_getElem?
 intro j
 simp only [tabI, mkI, List.map_map, List.getElem?_set, List.getElem?_map, List.length_map, List.length_range]
 by_cases hij : i = j
 ·subst hij
  by_cases hi : i < n
  ·simp [hi]
  ·simp [hi]
 ·by_cases hj : j < n
  ·simp [hj, hij, show ¬ j = i from fun h => hij h.symm]
  ·simp [hj, hij]
theorem tabI_zero (n : Nat) : List.replicate n [D.i 0] = tabI n fun _ => 0 := by
 simp [tabI, mkI, List.map_const']
theorem tank_of {t r s : Int} {l : List (List D)} (h : tankP t r s l) : (1 ≤ t ∧ t ≤ 1000000) ∧ (0 ≤ r ∧ r ≤ t) ∧ (0 ≤ s ∧ s ≤ t) ∧ l.length ≤ 50 ∧ ∀ j, j < l.length → (0 ≤ leastOf l j ∧ leastOf l j ≤ mostOf l j) ∧ mostOf l j ≤ 1000000 ∧ (0 ≤ fillOf l j ∧ fillOf l j ≤ 1000000) := by
 simp only [tankP, tankOk, Bool.and_eq_true, Lite.within_iff, decide_eq_true_eq, allFrom_iff, legAt, legOk, legP] at h
 obtain ⟨⟨⟨⟨h1, h2⟩, h3⟩, h4⟩, h5⟩ := h
 refine ⟨h1, h2, h3, h4, fun j hj => ?_⟩
 have := h5 j (Nat.zero_le _) (by omega)
 exact ⟨this.1.1, this.1.2, this.2⟩
section
variable {t r s : Int} {l : List (List D)} (h : tankP t r s l)
include h
theorem need_rng : ∀ j, j ≤ l.length → -1000000 ≤ needAt l r s j ∧ needAt l r s j ≤ 1000000 * (j + 1)
 | 0, _ => by
   obtain ⟨h1, h2, h3, h4, h5⟩ := tank_of h
   simp only [needAt]; omega
 | j + 1, hj => by
   obtain ⟨h1, h2, h3, h4, h5⟩ := tank_of h
   have := need_rng j (by omega)
   have := h5 j (by omega)
   simp only [needAt]; omega
theorem up_rng : ∀ j, j ≤ l.length → 0 ≤ upAt l r s j ∧ upAt l r s j ≤ 1000000 * (j + 1)
 | 0, _ => by simp only [upAt]; omega
 | j + 1, hj => by
   have h1 := up_rng j (by omega)
   have h2 := need_rng h (j + 1) hj
   simp only [upAt]; omega
omit h in
theorem up_mono {j : Nat} : upAt l r s j ≤ upAt l r s (j + 1) := by simp only [upAt]; omega
theorem down_rng : ∀ k j, j + k < l.length → upAt l r s (j + 1) ≤ downAt l r s k j ∧ downAt l r s k j ≤ 1000000 * 51
 | 0, j, hj => by
   have h1 := up_rng h (j + 1) (by omega)
   have h2 := (tank_of h).2.2.2.1
   simp only [downAt]; omega
 | k + 1, j, hj => by
   have h1 := up_rng h (j + 1) (by omega)
   have h2 := (tank_of h).2.2.2.1
   have h3 := down_rng k (j + 1) (by omega)
   have h4 := ((tank_of h).2.2.2.2 (j + 1) (by omega)).2.2
   simp only [downAt]; omega
theorem sum_rng {j : Nat} (hj : j < l.length) : upAt l r s (j + 1) ≤ sumAt l r s j ∧ 0 ≤ sumAt l r s j ∧ sumAt l r s j ≤ 51000000 := by
 have h1 := down_rng h (l.length - 1 - j) j (by omega)
 have h2 := up_rng h (j + 1) (by omega)
 unfold sumAt
 omega
omit h in
theorem sum_step {j : Nat} (hj : j + 1 < l.length) : sumAt l r s j = max (upAt l r s (j + 1)) (sumAt l r s (j + 1) - fillOf l (j + 1)) := by
 unfold sumAt
 rw [show l.length - 1 - j = (l.length - 1 - (j + 1)) + 1 by omega]
 rfl
theorem sum_mono {j : Nat} (hj : j + 1 < l.length) : sumAt l r s j ≤ sumAt l r s (j + 1) ∧ sumAt l r s (j + 1) - sumAt l r s j ≤ fillOf l (j + 1) := by
 have h1 := sum_step (r := r) (s := s) hj
 have h2 := (sum_rng h hj).1
 have h3 := up_mono (l := l) (r := r) (s := s) (j := j + 1)
 have h4 := ((tank_of h).2.2.2.2 (j + 1) hj).2.2
 omega
end
set_option maxRecDepth 100000 in
theorem max_if (a b : Int) : maxI a b = max a b := by
 unfold maxI
 rw [Int.max_def]
 by_cases h : b > a
 ·rw [if_pos h, if_pos (by omega)]
 ·rw [if_neg h]
  by_cases h2 : a ≤ b
  ·rw [if_pos h2]; omega
  ·rw [if_neg h2]
theorem ok14_8 (n : Nat) : LoopSim C (n + 5) 14 (loopOf C.P 14 8) (mkL l14_8 G14_8) := by
 refine loop_of hC (sp := sp14) (lp := lp14) ⟨ok47 n, ok48 (n + 4), trivial⟩ [] (by kernel_rfl) rfl (fun k hk => by cases hk) (by kernel_rfl) (fun ds => ((ds.getD 9 default).I - (ds.getD 10 default).I).toNat) fun ds rr h => ?_
 unfold G14_8 at h
 split at h
 ·rename_i t r s l m m' need most l' n' i row
  obtain ⟨hp, h⟩ := need_some h
  rw [yes_iff] at hp
  obtain ⟨h1, h2, h3, h4, h5, h6, h7, h8, h9, h10⟩ := hp
  have hlen := (tank_of h1).2.2.2.1
  refine ⟨by rw [fuelC]; simp; omega, ?_⟩
  rw [show roundT C (mkTab sp14 lp14) 14 (loopOf C.P 14 8) l14_8 [t, r, s, l, m, m', need, most, l', n', i, row] = _ from t14_8 t r s l m m' need most l' n' i row]
  obtain ⟨k, hk⟩ : ∃ k : Nat, i.I = k := ⟨i.I.toNat, by omega⟩
  simp only [hk, h2, h3, h4, h5, h8, h9, h10, Int.toNat_natCast, upd1, ix_def, Nat.zero_add] at h ⊢
  refine rd_if (fun hlt => ?_) fun hlt => ?_
  ·have hkl : k < l.L.length := by omega
   have hn := need_rng h1 k (by omega)
   have hn' := need_rng h1 (k + 1) (by omega)
   have e1 : needAt l.L r.I s.I (k + 1) = needAt l.L r.I s.I k + ix (l.L.getD k []) 1 := rfl
   refine rd_dec ⟨by omega, by omega⟩ (rd_dec ⟨by omega, by omega⟩ (rd_dec (by simp only [upTo, len_tabI]; omega) (rd_again ?_ ?_)))
   ·have w1 : IntKind.i64.wrap (needAt l.L r.I s.I k + ix (l.L.getD k []) 1) = needAt l.L r.I s.I (k + 1) := by rw [e1]; exact wrap_id (by omega) (by omega)
    rw [w1, max_if, wrap_succ (by omega)]
    refine (need_yes ⟨h1, rfl, rfl, rfl, rfl, by simp only [I_i]; omega, by simp only [I_i, L_l]; omega, rfl, rfl, ?_⟩).trans h
    simp only [L_l, I_i, Int.toNat_natCast, upTo, tabI_set]
    refine tabI_congr fun j hj => ?_
    by_cases hjk : j = k
    ·subst hjk; simp [upAt]
    ·rw [if_neg hjk]
     by_cases hlt2 : j < k
     ·rw [if_pos hlt2]; exact (if_pos (show j < k + 1 by omega)).symm
     ·rw [if_neg hlt2]; exact (if_neg (show ¬ j < k + 1 by omega)).symm
   ·show ((l.L.length : Int) - ((IntKind.i64.wrap ((k : Int) + 1)))).toNat < (n'.I - i.I).toNat
    rw [wrap_succ (by omega)]
    omega
  ·have hkl : k = l.L.length := by omega
   subst hkl
   exact rd_out h
 ·cases h
theorem ok14_15 (n : Nat) : LoopSim C (n + 5) 14 (loopOf C.P 14 15) (mkL l14_15 G14_15) := by
 refine loop_of hC (sp := sp14) (lp := lp14) ⟨ok47 n, ok48 (n + 4), trivial⟩ [] (by kernel_rfl) rfl (fun k hk => by cases hk) (by kernel_rfl) (fun ds => ((ds.getD 6 default).I + 3).toNat) fun ds rr h => ?_
 unfold G14_15 at h
 split at h
 ·rename_i t r s l m m' i row
  obtain ⟨hp, h⟩ := need_some h
  rw [yes_iff] at hp
  obtain ⟨h1, h2, h3, h4, h5, h6⟩ := hp
  have hlen := (tank_of h1).2.2.2.1
  refine ⟨by rw [fuelC]; simp; omega, ?_⟩
  rw [show roundT C (mkTab sp14 lp14) 14 (loopOf C.P 14 15) l14_15 [t, r, s, l, m, m', i, row] = _ from t14_15 t r s l m m' i row]
  simp only [h2, h3, h6, Int.toNat_natCast, upd1, ix_def, Nat.zero_add, Nat.reduceAdd] at h ⊢
  have e0 : (downTo l.L r.I s.I i.I).length = l.L.length := len_tabI _ _
  refine rd_if (fun hge => ?_) fun hge => ?_
  ·obtain ⟨k, hk⟩ : ∃ k : Nat, i.I = k := ⟨i.I.toNat, by omega⟩
   have hkl : k + 1 < l.L.length := by omega
   have w1 : IntKind.i64.wrap ((k : Int) + 1) = ((k + 1 : Nat) : Int) := wrap_succ (by omega)
   have w2 : IntKind.i64.wrap ((k : Int) - 1) = (k : Int) - 1 := wrap_id (by omega) (by omega)
   rw [hk] at e0 ⊢
   rw [w1, w2]
   simp only [Int.toNat_natCast]
   have g1 : ix ((downTo l.L r.I s.I k).getD (k + 1) []) 0 = sumAt l.L r.I s.I (k + 1) := by
    unfold downTo
    rw [tabI_get hkl]
    show (if (k : Int) < ((k + 1 : Nat) : Int) then _ else _) = _
    rw [if_pos (by omega)]
   have g2 : ix ((downTo l.L r.I s.I k).getD k []) 0 = upAt l.L r.I s.I (k + 1) := by
    unfold downTo
    rw [tabI_get (by omega)]
    show (if (k : Int) < (k : Int) then _ else _) = _
    rw [if_neg (by omega)]
   have hs1 := sum_rng h1 hkl
   have hf := ((tank_of h1).2.2.2.2 (k + 1) hkl).2.2
   have e1 := sum_step (r := r.I) (s := s.I) hkl
   have e2 : fillOf l.L (k + 1) = ix (l.L.getD (k + 1) []) 2 := rfl
   have w3 : IntKind.i64.wrap (sumAt l.L r.I s.I (k + 1) - ix (l.L.getD (k + 1) []) 2) = sumAt l.L r.I s.I (k + 1) - fillOf l.L (k + 1) := wrap_id (by show _ ≤ _ - fillOf l.L (k + 1); omega) (by show _ - fillOf l.L (k + 1) < _; omega)
   simp only [g1, g2, w3, max_if, ← e1]
   refine rd_dec ⟨by omega, by omega⟩ (rd_dec (by omega) (rd_dec ⟨by omega, by omega⟩ (rd_dec (by omega) (rd_dec ⟨by omega, by omega⟩ (rd_dec ⟨by omega, by omega⟩ (rd_dec (by omega) (rd_again ?_ ?_)))))))
   ·refine (need_yes ⟨h1, rfl, rfl, by simp only [I_i]; omega, by simp only [I_i, L_l]; omega, ?_⟩).trans h
    simp only [L_l, I_i, downTo, tabI_set]
    refine tabI_congr fun j hj => ?_
    by_cases hjk : j = k
    ·subst hjk
     rw [if_pos rfl]; exact (if_pos (show (j : Int) - 1 < (j : Int) by omega)).symm
    ·rw [if_neg hjk]
     by_cases hlt2 : (k : Int) < (j : Int)
     ·rw [if_pos hlt2]; exact (if_pos (show (k : Int) - 1 < (j : Int) by omega)).symm
     ·rw [if_neg hlt2]; exact (if_neg (show ¬ (k : Int) - 1 < (j : Int) by omega)).symm
   ·show (((k : Int) - 1) + 3).toNat < (i.I + 3).toNat
    omega
  ·refine rd_out ?_
   rw [← h]
   simp only [run_leaf]
   congr 5
   unfold downTo sums
   simp only [List.cons.injEq, D.l.injEq, and_true, true_and]
   refine tabI_congr fun j hj => ?_
   rw [if_pos (by omega)]
 ·cases h
theorem out_of {l : List (List D)} {r s : Int} {k : Nat} (hk : k < l.length) : sumAt l r s k - beforeAt l r s k = outAt l r s k := by
 cases k with
 | zero => simp [beforeAt, outAt]
 | succ k => simp [beforeAt, outAt]
theorem before_rng {t r s : Int} {l : List (List D)} (h : tankP t r s l) {k : Nat} (hk : k ≤ l.length) : 0 ≤ beforeAt l r s k ∧ beforeAt l r s k ≤ 51000000 := by
 cases k with
 | zero => simp [beforeAt]
 | succ k =>
   have := sum_rng h (j := k) (by omega)
   simp only [beforeAt]; omega
theorem ok14_21 (n : Nat) : LoopSim C (n + 5) 14 (loopOf C.P 14 21) (mkL l14_21 G14_21) := by
 refine loop_of hC (sp := sp14) (lp := lp14) ⟨ok47 n, ok48 (n + 4), trivial⟩ [] (by kernel_rfl) rfl (fun k hk => by cases hk) (by kernel_rfl) (fun ds => ((ds.getD 7 default).I - (ds.getD 8 default).I).toNat) fun ds rr h => ?_
 unfold G14_21 at h
 split at h
 ·rename_i t r s l m b m' n' i row row'
  obtain ⟨hp, h⟩ := need_some h
  rw [yes_iff] at hp
  obtain ⟨h1, h2, h3, h4, h5, h6, h7, h8, h9⟩ := hp
  have hlen := (tank_of h1).2.2.2.1
  refine ⟨by rw [fuelC]; simp; omega, ?_⟩
  rw [show roundT C (mkTab sp14 lp14) 14 (loopOf C.P 14 21) l14_21 [t, r, s, l, m, b, m', n', i, row, row'] = _ from t14_21 t r s l m b m' n' i row row']
  obtain ⟨k, hk⟩ : ∃ k : Nat, i.I = k := ⟨i.I.toNat, by omega⟩
  simp only [hk, h2, h3, h4, h7, h8, h9, Int.toNat_natCast, upd1, ix_def, Nat.zero_add, Nat.reduceAdd] at h ⊢
  have e0 : (outTo l.L r.I s.I k).length = l.L.length := len_tabI _ _
  have e3 : (sums l.L r.I s.I).length = l.L.length := len_tabI _ _
  refine rd_if (fun hlt => ?_) fun hlt => ?_
  ·have hkl : k < l.L.length := by omega
   have g1 : ix ((sums l.L r.I s.I).getD k []) 0 = sumAt l.L r.I s.I k := by
    unfold sums
    rw [tabI_get hkl]; rfl
   have hs1 := sum_rng h1 hkl
   have hb := before_rng h1 (k := k) (by omega)
   have w1 : IntKind.i64.wrap (sumAt l.L r.I s.I k - beforeAt l.L r.I s.I k) = outAt l.L r.I s.I k := by rw [← out_of hkl]; exact wrap_id (by omega) (by omega)
   simp only [g1, w1]
   have e4 : (outTo l.L r.I s.I k).set k [.i (outAt l.L r.I s.I k)] = outTo l.L r.I s.I (k + 1) := by
    unfold outTo
    rw [tabI_set]
    refine tabI_congr fun j hj => ?_
    by_cases hjk : j = k
    ·subst hjk; simp
    ·rw [if_neg hjk]
     by_cases hlt2 : j < k
     ·rw [if_pos hlt2, if_pos (show j < k + 1 by omega)]
     ·rw [if_neg hlt2, if_neg (show ¬ j < k + 1 by omega)]
   have e5 : (outTo l.L r.I s.I (k + 1)).length = l.L.length := len_tabI _ _
   have g2 : ix ((outTo l.L r.I s.I (k + 1)).getD k []) 0 = outAt l.L r.I s.I k := by
    unfold outTo
    rw [tabI_get hkl]
    show (if k < k + 1 then _ else _) = _
    rw [if_pos (by omega)]
   rw [e4, g2]
   have e6 : l.L.length - k = (l.L.length - (k + 1)) + 1 := by omega
   rw [e6] at h
   simp only [allFrom] at h
   refine rd_dec ⟨by omega, by omega⟩ (rd_dec (by omega) (rd_dec ⟨by omega, by omega⟩ (rd_dec (by omega) (rd_dec ⟨by omega, by omega⟩ (rd_dec (by omega) (rd_dec ⟨by omega, by omega⟩ (rd_if (fun hc => ?_) fun hc => ?_)))))))
   ·have : outOk l.L r.I s.I k = false := by
     unfold outOk
     exact decide_eq_false (by show ¬ _ ≤ ix (l.L.getD k []) 2; omega)
    rw [this, Bool.false_and] at h
    exact rd_out h
   ·have : outOk l.L r.I s.I k = true := by
     unfold outOk
     exact decide_eq_true (by show _ ≤ ix (l.L.getD k []) 2; omega)
    rw [this, Bool.true_and] at h
    refine rd_again ?_ ?_
    ·rw [wrap_succ (by omega)]
     exact (need_yes ⟨h1, rfl, rfl, rfl, by simp only [I_i]; omega, by simp only [I_i, L_l]; omega, rfl, rfl, rfl⟩).trans h
    ·show ((l.L.length : Int) - ((IntKind.i64.wrap ((k : Int) + 1)))).toNat < (n'.I - i.I).toNat
     rw [wrap_succ (by omega)]
     omega
  ·have hkl : k = l.L.length := by omega
   refine rd_out ?_
   rw [← h]
   subst hkl
   simp only [Nat.sub_self, allFrom, run_ite, run_leaf, if_true]
   congr 5
   simp only [List.cons.injEq, D.l.injEq, and_true, true_and]
   unfold outTo outs
   refine tabI_congr fun j hj => ?_
   rw [if_pos hj]
 ·cases h
theorem take_tabI {n : Nat} {f : Nat → Int} : (tabI n f).take n = tabI n f := List.take_of_length_le (by rw [len_tabI]; omega)
theorem out_nonneg {t r s : Int} {l : List (List D)} (h : tankP t r s l) {j : Nat} (hj : j < l.length) : 0 ≤ outAt l r s j := by
 cases j with
 | zero => exact (sum_rng h hj).2.1
 | succ j =>
   have := sum_mono h hj
   simp only [outAt]; omega
theorem upTo_zero {l : List (List D)} {r s : Int} : upTo l r s 0 = tabI l.length fun _ => 0 := tabI_congr fun j _ => by rw [if_neg (Nat.not_lt_zero j)]
theorem outTo_zero {l : List (List D)} {r s : Int} : outTo l r s 0 = tabI l.length fun _ => 0 := tabI_congr fun j _ => by rw [if_neg (Nat.not_lt_zero j)]
set_option maxRecDepth 100000 in
theorem ok14 (n : Nat) : FnOK C (n + 6) 14 (mkF s14 G14) := by
 refine fn_of hC (sp := sp14) (lp := lp14) ⟨ok47 n, ok48 (n + 4), trivial⟩ (by kernel_rfl) [8, 15, 21] (by kernel_rfl) (by kernel_rfl) (fun k hk L hL => by
  simp only [List.mem_cons, List.not_mem_nil, or_false] at hk
  rcases hk with rfl | rfl | rfl <;> cases hL
  ·exact ok14_8 n
  ·exact ok14_15 n
  ·exact ok14_21 n) fun ds rr h => ?_
 unfold G14 at h
 split at h
 ·rename_i t r s l
  obtain ⟨hp, h⟩ := need_some h
  rw [yes_iff] at hp
  refine (congrArg T.run (t14 t r s l)).trans ?_
  simp only [Int.toNat_natCast, Int.toNat_zero, tabI_zero, len_tabI, Nat.sub_zero]
  refine go_yes hp (go_not (fun hc => ?_) (fun hc => ?_))
  ·rw [run_ite, hc] at h
   exact h
  ·rw [run_ite, hc] at h
   have h : (T.ite (fuelOk t.I r.I s.I l.L) (T.leaf [D.i 1, D.i ↑l.L.length, D.i 0, D.l (outs l.L r.I s.I)]) (T.leaf [D.i 0, D.i 5])).run = some rr := h
   have ht : tankP t.I r.I s.I l.L := hc
   obtain ⟨h1, h2, h3, h4, h5⟩ := tank_of ht
   have w0 : IntKind.i64.wrap (r.I - s.I) = r.I - s.I := wrap_id (by omega) (by omega)
   have w1 : IntKind.i64.wrap ((l.L.length : Int) - 2) = (l.L.length : Int) - 2 := wrap_id (by omega) (by omega)
   rw [w0, w1]
   have e1 : upTo l.L r.I s.I l.L.length = downTo l.L r.I s.I ((l.L.length : Int) - 2) := by
    unfold upTo downTo
    refine tabI_congr fun j hj => ?_
    rw [if_pos hj]
    by_cases hj2 : (l.L.length : Int) - 2 < (j : Int)
    ·rw [if_pos hj2]
     unfold sumAt
     rw [show l.L.length - 1 - j = 0 by omega]
     rfl
    ·rw [if_neg hj2]
   have e2 : (outs l.L r.I s.I).length = l.L.length := len_tabI _ _
   have e3 : (outs l.L r.I s.I).take l.L.length = outs l.L r.I s.I := take_tabI
   rw [e3]
   refine go_dec ⟨by omega, by trivial, by omega, by rw [bytes3]; omega⟩ (go_yes ⟨ht, by trivial, by trivial, by trivial, by trivial, by omega, by omega, by trivial, by trivial, upTo_zero.symm⟩ (go_yes ⟨ht, by trivial, by trivial, by omega, by omega, e1⟩ (go_dec ⟨by omega, by trivial, by omega, by rw [bytes3]; omega⟩ (go_yes ⟨ht, by trivial, by trivial, by trivial, by omega, by omega, by trivial, outTo_zero.symm, by trivial⟩ ?_))))
   refine go_ite (fun ha => ?_) (fun ha => ?_)
   ·have hpre : tankPre t.I r.I l.L (outs l.L r.I s.I) := by
     simp only [tankP, tankOk, Bool.and_eq_true, decide_eq_true_eq] at ht
     exact ⟨by omega, by omega, e2, h4, ht.2⟩
    have ham : allFrom (amOk l.L (outs l.L r.I s.I)) 0 l.L.length = true := by
     rw [allFrom_iff] at ha ⊢
     intro j hj hj2
     have hjl : j < l.L.length := by omega
     have := ha j hj hj2
     simp only [outOk, decide_eq_true_eq] at this
     have g := tabI_get (f := outAt l.L r.I s.I) hjl
     unfold amOk outs
     rw [g, Lite.within_iff]
     exact ⟨out_nonneg hc hjl, this⟩
    refine go_dec (by omega) (go_yes ⟨hpre, ham, by unfold bounds; omega⟩ ?_)
    have hf : fuelOk t.I r.I s.I l.L = safeFrom t.I r.I l.L (outs l.L r.I s.I) 0 l.L.length s.I s.I := by
     unfold fuelOk; rw [ha, Bool.true_and]
    rw [hf] at h
    refine go_not (fun hs => ?_) (fun hs => ?_)
    ·rw [run_ite, hs] at h
     exact h
    ·rw [run_ite, hs] at h
     exact h
   ·have hf : fuelOk t.I r.I s.I l.L = false := by unfold fuelOk; rw [ha, Bool.false_and]
    rw [run_ite, hf] at h
    exact h
 ·cases h
noncomputable def sp3 : SpL := [(8, mkF s8 G8), (9, mkF s9 G9), (10, mkF s10 G10), (11, mkF s11 G11), (12, mkF s12 G12w), (13, mkF s13 G13), (14, mkF s14 G14w)]
noncomputable def lp3 : LpL := [(5, mkL l3_5 G3_5), (13, mkL l3_13 G3_13), (31, mkL l3_31 G3_31)]
noncomputable def sw3 : SwL := []
noncomputable def tab3 : Tab := mkTab sp3 lp3 sw3
set_option linter.unusedVariables false
set_option maxRecDepth 100000
theorem t3 (a b c d e f g h i j k l : D) : fnT C tab3 3 s3 [a, b, c, d, e, f, g, h, i, j, k, l] =
 T.ite (!(roadOk a.L b.L c.L && decide (lenR a.L ≤ (120 : Int)))) (T.leaf [D.b true]) (T.ite (!speedsOk d.I e.I f.L g.L) (T.leaf [D.b true]) (T.ite (decide ((h.L.length : Int) > (7 : Int))) (T.leaf [D.b true]) (T.need (yes (manyP a.L ∧ lenR a.L ≤ (120 : Int) ∧ h.L.length ≤ 7 ∧ (0 : Int) ≤ (0 : Int) ∧ (0 : Int) ≤ (h.L.length : Int) ∧ (↑(List.length [[D.i 0]]) : Int) = (0 : Int) + (1 : Int) ∧ [[D.i 0]] = plF h.L (Int.toNat (0 : Int)))) (T.ite (allFrom (cutAt h.L (lenR a.L)) (Int.toNat (0 : Int)) (h.L.length - Int.toNat (0 : Int))) (T.need (yes (a.L.length ≤ 2000 ∧ allFrom (pieceAt a.L) 0 a.L.length = true)) (T.need true (T.ite false (T.need (yes ((↑0 : Int) = (0 : Int) ∧ paceP d.I e.I f.L g.L a.L b.L c.L ∧ plOk (lenR a.L) (plF h.L h.L.length) ∧ (↑(Int.toNat (↑(h.L.length + 1) : Int)) : Int) = (↑(List.length (plF h.L h.L.length)) : Int) ∧ (0 : Int) = (0 : Int) ∧ 2 ≤ List.length (plF h.L h.L.length))) (T.need (decide (Int.toNat (↑(List.length (plF h.L h.L.length) - 1) : Int) ≤ List.length (legsF d.I e.I f.L g.L a.L j.L (plF h.L h.L.length) (List.length (plF h.L h.L.length) - 1)))) (T.ite (!tankOk k.I l.I l.I (List.take (Int.toNat (↑(List.length (plF h.L h.L.length) - 1) : Int)) (legsF d.I e.I f.L g.L a.L j.L (plF h.L h.L.length) (List.length (plF h.L h.L.length) - 1)))) (T.leaf [D.b true]) (T.need (decide (Int.toNat (↑(List.length (plF h.L h.L.length) - 1) : Int) ≤ List.length (legsF d.I e.I f.L g.L a.L j.L (plF h.L h.L.length) (List.length (plF h.L h.L.length) - 1)))) (T.need (yes (tankP k.I l.I l.I (List.take (Int.toNat (↑(List.length (plF h.L h.L.length) - 1) : Int)) (legsF d.I e.I f.L g.L a.L j.L (plF h.L h.L.length) (List.length (plF h.L h.L.length) - 1))))) (T.ite (fuelOk k.I l.I l.I (List.take (Int.toNat (↑(List.length (plF h.L h.L.length) - 1) : Int)) (legsF d.I e.I f.L g.L a.L j.L (plF h.L h.L.length) (List.length (plF h.L h.L.length) - 1)))) (T.ite false (T.ite false (T.leaf [D.b true]) (T.leaf [D.b false])) (T.ite ((↑(Int.toNat (↑(List.length (List.take (Int.toNat (↑(List.length (plF h.L h.L.length) - 1) : Int)) (legsF d.I e.I f.L g.L a.L j.L (plF h.L h.L.length) (List.length (plF h.L h.L.length) - 1)))) : Int)) : Int) != (↑(Int.toNat (↑(List.length (plF h.L h.L.length) - 1) : Int)) : Int)) (T.leaf [D.b false]) (T.need (yes ((paceP d.I e.I f.L g.L a.L b.L c.L ∧ plOk (lenR a.L) (plF h.L h.L.length)) ∧ ((↑(Int.toNat (↑(List.length (plF h.L h.L.length)) : Int)) : Int) = (↑(List.length (plF h.L h.L.length)) : Int) ∧ (↑(Int.toNat (↑(List.length (plF h.L h.L.length) - 1) : Int)) : Int) = (↑(List.length (legsF d.I e.I f.L g.L a.L j.L (plF h.L h.L.length) (List.length (plF h.L h.L.length) - 1))) : Int) ∧ (↑(Int.toNat (↑(List.length (List.take (Int.toNat (↑(List.length (plF h.L h.L.length) - 1) : Int)) (legsF d.I e.I f.L g.L a.L j.L (plF h.L h.L.length) (List.length (plF h.L h.L.length) - 1)))) : Int)) : Int) = (↑(List.length (outs (List.take (Int.toNat (↑(List.length (plF h.L h.L.length) - 1) : Int)) (legsF d.I e.I f.L g.L a.L j.L (plF h.L h.L.length) (List.length (plF h.L h.L.length) - 1))) l.I l.I)) : Int)) ∧ (∃ fi, legsF d.I e.I f.L g.L a.L j.L (plF h.L h.L.length) (List.length (plF h.L h.L.length) - 1) = legsF d.I e.I f.L g.L a.L fi (plF h.L h.L.length) (List.length (legsF d.I e.I f.L g.L a.L j.L (plF h.L h.L.length) (List.length (plF h.L h.L.length) - 1)))) ∧ List.length (legsF d.I e.I f.L g.L a.L j.L (plF h.L h.L.length) (List.length (plF h.L h.L.length) - 1)) + 1 = List.length (plF h.L h.L.length) ∧ amP (legsF d.I e.I f.L g.L a.L j.L (plF h.L h.L.length) (List.length (plF h.L h.L.length) - 1)) (outs (List.take (Int.toNat (↑(List.length (plF h.L h.L.length) - 1) : Int)) (legsF d.I e.I f.L g.L a.L j.L (plF h.L h.L.length) (List.length (plF h.L h.L.length) - 1))) l.I l.I) ∧ ((0 : Int) ≤ l.I ∧ k.I ≤ (1000000 : Int)) ∧ (0 : Int) ≤ (0 : Int) ∧ (0 : Int) ≤ (↑(List.length (legsF d.I e.I f.L g.L a.L j.L (plF h.L h.L.length) (List.length (plF h.L h.L.length) - 1))) : Int) ∧ levP k.I l.I (legsF d.I e.I f.L g.L a.L j.L (plF h.L h.L.length) (List.length (plF h.L h.L.length) - 1)) (outs (List.take (Int.toNat (↑(List.length (plF h.L h.L.length) - 1) : Int)) (legsF d.I e.I f.L g.L a.L j.L (plF h.L h.L.length) (List.length (plF h.L h.L.length) - 1))) l.I l.I) (Int.toNat (0 : Int)) l.I)) (T.leaf [D.b true])))) (T.ite true (T.ite true (T.leaf [D.b true]) (T.leaf [D.b false])) (T.ite ((↑0 : Int) != (↑(Int.toNat (↑(List.length (plF h.L h.L.length) - 1) : Int)) : Int)) (T.leaf [D.b false]) T.fail)))))))) (T.need (decide (Int.toNat (↑(h.L.length + 1) : Int) ≤ List.length (plF h.L h.L.length) ∧ Int.toNat (↑(h.L.length + 1) : Int) + 1 ≤ 2 ^ 62 ∧ (Int.toNat (↑(h.L.length + 1) : Int) + 1) * Try.prog.types[3].bytes ≤ 2 ^ 47)) (T.need (yes ((↑0 : Int) = (0 : Int) ∧ paceP d.I e.I f.L g.L a.L b.L c.L ∧ plOk (lenR a.L) (List.take (Int.toNat (↑(h.L.length + 1) : Int)) (plF h.L h.L.length) ++ List.take (List.length [[D.i (lenR a.L)]]) [[D.i (lenR a.L)]]) ∧ (↑(Int.toNat (↑(h.L.length + 1) : Int) + 1) : Int) = (↑(List.length (List.take (Int.toNat (↑(h.L.length + 1) : Int)) (plF h.L h.L.length) ++ List.take (List.length [[D.i (lenR a.L)]]) [[D.i (lenR a.L)]])) : Int) ∧ (0 : Int) = (0 : Int) ∧ 2 ≤ List.length (List.take (Int.toNat (↑(h.L.length + 1) : Int)) (plF h.L h.L.length) ++ List.take (List.length [[D.i (lenR a.L)]]) [[D.i (lenR a.L)]]))) (T.need (decide (Int.toNat (↑(List.length (List.take (Int.toNat (↑(h.L.length + 1) : Int)) (plF h.L h.L.length) ++ List.take (List.length [[D.i (lenR a.L)]]) [[D.i (lenR a.L)]]) - 1) : Int) ≤ List.length (legsF d.I e.I f.L g.L a.L j.L (List.take (Int.toNat (↑(h.L.length + 1) : Int)) (plF h.L h.L.length) ++ List.take (List.length [[D.i (lenR a.L)]]) [[D.i (lenR a.L)]]) (List.length (List.take (Int.toNat (↑(h.L.length + 1) : Int)) (plF h.L h.L.length) ++ List.take (List.length [[D.i (lenR a.L)]]) [[D.i (lenR a.L)]]) - 1)))) (T.ite (!tankOk k.I l.I l.I (List.take (Int.toNat (↑(List.length (List.take (Int.toNat (↑(h.L.length + 1) : Int)) (plF h.L h.L.length) ++ List.take (List.length [[D.i (lenR a.L)]]) [[D.i (lenR a.L)]]) - 1) : Int)) (legsF d.I e.I f.L g.L a.L j.L (List.take (Int.toNat (↑(h.L.length + 1) : Int)) (plF h.L h.L.length) ++ List.take (List.length [[D.i (lenR a.L)]]) [[D.i (lenR a.L)]]) (List.length (List.take (Int.toNat (↑(h.L.length + 1) : Int)) (plF h.L h.L.length) ++ List.take (List.length [[D.i (lenR a.L)]]) [[D.i (lenR a.L)]]) - 1)))) (T.leaf [D.b true]) (T.need (decide (Int.toNat (↑(List.length (List.take (Int.toNat (↑(h.L.length + 1) : Int)) (plF h.L h.L.length) ++ List.take (List.length [[D.i (lenR a.L)]]) [[D.i (lenR a.L)]]) - 1) : Int) ≤ List.length (legsF d.I e.I f.L g.L a.L j.L (List.take (Int.toNat (↑(h.L.length + 1) : Int)) (plF h.L h.L.length) ++ List.take (List.length [[D.i (lenR a.L)]]) [[D.i (lenR a.L)]]) (List.length (List.take (Int.toNat (↑(h.L.length + 1) : Int)) (plF h.L h.L.length) ++ List.take (List.length [[D.i (lenR a.L)]]) [[D.i (lenR a.L)]]) - 1)))) (T.need (yes (tankP k.I l.I l.I (List.take (Int.toNat (↑(List.length (List.take (Int.toNat (↑(h.L.length + 1) : Int)) (plF h.L h.L.length) ++ List.take (List.length [[D.i (lenR a.L)]]) [[D.i (lenR a.L)]]) - 1) : Int)) (legsF d.I e.I f.L g.L a.L j.L (List.take (Int.toNat (↑(h.L.length + 1) : Int)) (plF h.L h.L.length) ++ List.take (List.length [[D.i (lenR a.L)]]) [[D.i (lenR a.L)]]) (List.length (List.take (Int.toNat (↑(h.L.length + 1) : Int)) (plF h.L h.L.length) ++ List.take (List.length [[D.i (lenR a.L)]]) [[D.i (lenR a.L)]]) - 1))))) (T.ite (fuelOk k.I l.I l.I (List.take (Int.toNat (↑(List.length (List.take (Int.toNat (↑(h.L.length + 1) : Int)) (plF h.L h.L.length) ++ List.take (List.length [[D.i (lenR a.L)]]) [[D.i (lenR a.L)]]) - 1) : Int)) (legsF d.I e.I f.L g.L a.L j.L (List.take (Int.toNat (↑(h.L.length + 1) : Int)) (plF h.L h.L.length) ++ List.take (List.length [[D.i (lenR a.L)]]) [[D.i (lenR a.L)]]) (List.length (List.take (Int.toNat (↑(h.L.length + 1) : Int)) (plF h.L h.L.length) ++ List.take (List.length [[D.i (lenR a.L)]]) [[D.i (lenR a.L)]]) - 1)))) (T.ite false (T.ite false (T.leaf [D.b true]) (T.leaf [D.b false])) (T.ite ((↑(Int.toNat (↑(List.length (List.take (Int.toNat (↑(List.length (List.take (Int.toNat (↑(h.L.length + 1) : Int)) (plF h.L h.L.length) ++ List.take (List.length [[D.i (lenR a.L)]]) [[D.i (lenR a.L)]]) - 1) : Int)) (legsF d.I e.I f.L g.L a.L j.L (List.take (Int.toNat (↑(h.L.length + 1) : Int)) (plF h.L h.L.length) ++ List.take (List.length [[D.i (lenR a.L)]]) [[D.i (lenR a.L)]]) (List.length (List.take (Int.toNat (↑(h.L.length + 1) : Int)) (plF h.L h.L.length) ++ List.take (List.length [[D.i (lenR a.L)]]) [[D.i (lenR a.L)]]) - 1)))) : Int)) : Int) != (↑(Int.toNat (↑(List.length (List.take (Int.toNat (↑(h.L.length + 1) : Int)) (plF h.L h.L.length) ++ List.take (List.length [[D.i (lenR a.L)]]) [[D.i (lenR a.L)]]) - 1) : Int)) : Int)) (T.leaf [D.b false]) (T.need (yes ((paceP d.I e.I f.L g.L a.L b.L c.L ∧ plOk (lenR a.L) (List.take (Int.toNat (↑(h.L.length + 1) : Int)) (plF h.L h.L.length) ++ List.take (List.length [[D.i (lenR a.L)]]) [[D.i (lenR a.L)]])) ∧ ((↑(Int.toNat (↑(List.length (List.take (Int.toNat (↑(h.L.length + 1) : Int)) (plF h.L h.L.length) ++ List.take (List.length [[D.i (lenR a.L)]]) [[D.i (lenR a.L)]])) : Int)) : Int) = (↑(List.length (List.take (Int.toNat (↑(h.L.length + 1) : Int)) (plF h.L h.L.length) ++ List.take (List.length [[D.i (lenR a.L)]]) [[D.i (lenR a.L)]])) : Int) ∧ (↑(Int.toNat (↑(List.length (List.take (Int.toNat (↑(h.L.length + 1) : Int)) (plF h.L h.L.length) ++ List.take (List.length [[D.i (lenR a.L)]]) [[D.i (lenR a.L)]]) - 1) : Int)) : Int) = (↑(List.length (legsF d.I e.I f.L g.L a.L j.L (List.take (Int.toNat (↑(h.L.length + 1) : Int)) (plF h.L h.L.length) ++ List.take (List.length [[D.i (lenR a.L)]]) [[D.i (lenR a.L)]]) (List.length (List.take (Int.toNat (↑(h.L.length + 1) : Int)) (plF h.L h.L.length) ++ List.take (List.length [[D.i (lenR a.L)]]) [[D.i (lenR a.L)]]) - 1))) : Int) ∧ (↑(Int.toNat (↑(List.length (List.take (Int.toNat (↑(List.length (List.take (Int.toNat (↑(h.L.length + 1) : Int)) (plF h.L h.L.length) ++ List.take (List.length [[D.i (lenR a.L)]]) [[D.i (lenR a.L)]]) - 1) : Int)) (legsF d.I e.I f.L g.L a.L j.L (List.take (Int.toNat (↑(h.L.length + 1) : Int)) (plF h.L h.L.length) ++ List.take (List.length [[D.i (lenR a.L)]]) [[D.i (lenR a.L)]]) (List.length (List.take (Int.toNat (↑(h.L.length + 1) : Int)) (plF h.L h.L.length) ++ List.take (List.length [[D.i (lenR a.L)]]) [[D.i (lenR a.L)]]) - 1)))) : Int)) : Int) = (↑(List.length (outs (List.take (Int.toNat (↑(List.length (List.take (Int.toNat (↑(h.L.length + 1) : Int)) (plF h.L h.L.length) ++ List.take (List.length [[D.i (lenR a.L)]]) [[D.i (lenR a.L)]]) - 1) : Int)) (legsF d.I e.I f.L g.L a.L j.L (List.take (Int.toNat (↑(h.L.length + 1) : Int)) (plF h.L h.L.length) ++ List.take (List.length [[D.i (lenR a.L)]]) [[D.i (lenR a.L)]]) (List.length (List.take (Int.toNat (↑(h.L.length + 1) : Int)) (plF h.L h.L.length) ++ List.take (List.length [[D.i (lenR a.L)]]) [[D.i (lenR a.L)]]) - 1))) l.I l.I)) : Int)) ∧ (∃ fi, legsF d.I e.I f.L g.L a.L j.L (List.take (Int.toNat (↑(h.L.length + 1) : Int)) (plF h.L h.L.length) ++ List.take (List.length [[D.i (lenR a.L)]]) [[D.i (lenR a.L)]]) (List.length (List.take (Int.toNat (↑(h.L.length + 1) : Int)) (plF h.L h.L.length) ++ List.take (List.length [[D.i (lenR a.L)]]) [[D.i (lenR a.L)]]) - 1) = legsF d.I e.I f.L g.L a.L fi (List.take (Int.toNat (↑(h.L.length + 1) : Int)) (plF h.L h.L.length) ++ List.take (List.length [[D.i (lenR a.L)]]) [[D.i (lenR a.L)]]) (List.length (legsF d.I e.I f.L g.L a.L j.L (List.take (Int.toNat (↑(h.L.length + 1) : Int)) (plF h.L h.L.length) ++ List.take (List.length [[D.i (lenR a.L)]]) [[D.i (lenR a.L)]]) (List.length (List.take (Int.toNat (↑(h.L.length + 1) : Int)) (plF h.L h.L.length) ++ List.take (List.length [[D.i (lenR a.L)]]) [[D.i (lenR a.L)]]) - 1)))) ∧ List.length (legsF d.I e.I f.L g.L a.L j.L (List.take (Int.toNat (↑(h.L.length + 1) : Int)) (plF h.L h.L.length) ++ List.take (List.length [[D.i (lenR a.L)]]) [[D.i (lenR a.L)]]) (List.length (List.take (Int.toNat (↑(h.L.length + 1) : Int)) (plF h.L h.L.length) ++ List.take (List.length [[D.i (lenR a.L)]]) [[D.i (lenR a.L)]]) - 1)) + 1 = List.length (List.take (Int.toNat (↑(h.L.length + 1) : Int)) (plF h.L h.L.length) ++ List.take (List.length [[D.i (lenR a.L)]]) [[D.i (lenR a.L)]]) ∧ amP (legsF d.I e.I f.L g.L a.L j.L (List.take (Int.toNat (↑(h.L.length + 1) : Int)) (plF h.L h.L.length) ++ List.take (List.length [[D.i (lenR a.L)]]) [[D.i (lenR a.L)]]) (List.length (List.take (Int.toNat (↑(h.L.length + 1) : Int)) (plF h.L h.L.length) ++ List.take (List.length [[D.i (lenR a.L)]]) [[D.i (lenR a.L)]]) - 1)) (outs (List.take (Int.toNat (↑(List.length (List.take (Int.toNat (↑(h.L.length + 1) : Int)) (plF h.L h.L.length) ++ List.take (List.length [[D.i (lenR a.L)]]) [[D.i (lenR a.L)]]) - 1) : Int)) (legsF d.I e.I f.L g.L a.L j.L (List.take (Int.toNat (↑(h.L.length + 1) : Int)) (plF h.L h.L.length) ++ List.take (List.length [[D.i (lenR a.L)]]) [[D.i (lenR a.L)]]) (List.length (List.take (Int.toNat (↑(h.L.length + 1) : Int)) (plF h.L h.L.length) ++ List.take (List.length [[D.i (lenR a.L)]]) [[D.i (lenR a.L)]]) - 1))) l.I l.I) ∧ ((0 : Int) ≤ l.I ∧ k.I ≤ (1000000 : Int)) ∧ (0 : Int) ≤ (0 : Int) ∧ (0 : Int) ≤ (↑(List.length (legsF d.I e.I f.L g.L a.L j.L (List.take (Int.toNat (↑(h.L.length + 1) : Int)) (plF h.L h.L.length) ++ List.take (List.length [[D.i (lenR a.L)]]) [[D.i (lenR a.L)]]) (List.length (List.take (Int.toNat (↑(h.L.length + 1) : Int)) (plF h.L h.L.length) ++ List.take (List.length [[D.i (lenR a.L)]]) [[D.i (lenR a.L)]]) - 1))) : Int) ∧ levP k.I l.I (legsF d.I e.I f.L g.L a.L j.L (List.take (Int.toNat (↑(h.L.length + 1) : Int)) (plF h.L h.L.length) ++ List.take (List.length [[D.i (lenR a.L)]]) [[D.i (lenR a.L)]]) (List.length (List.take (Int.toNat (↑(h.L.length + 1) : Int)) (plF h.L h.L.length) ++ List.take (List.length [[D.i (lenR a.L)]]) [[D.i (lenR a.L)]]) - 1)) (outs (List.take (Int.toNat (↑(List.length (List.take (Int.toNat (↑(h.L.length + 1) : Int)) (plF h.L h.L.length) ++ List.take (List.length [[D.i (lenR a.L)]]) [[D.i (lenR a.L)]]) - 1) : Int)) (legsF d.I e.I f.L g.L a.L j.L (List.take (Int.toNat (↑(h.L.length + 1) : Int)) (plF h.L h.L.length) ++ List.take (List.length [[D.i (lenR a.L)]]) [[D.i (lenR a.L)]]) (List.length (List.take (Int.toNat (↑(h.L.length + 1) : Int)) (plF h.L h.L.length) ++ List.take (List.length [[D.i (lenR a.L)]]) [[D.i (lenR a.L)]]) - 1))) l.I l.I) (Int.toNat (0 : Int)) l.I)) (T.leaf [D.b true])))) (T.ite true (T.ite true (T.leaf [D.b true]) (T.leaf [D.b false])) (T.ite ((↑0 : Int) != (↑(Int.toNat (↑(List.length (List.take (Int.toNat (↑(h.L.length + 1) : Int)) (plF h.L h.L.length) ++ List.take (List.length [[D.i (lenR a.L)]]) [[D.i (lenR a.L)]]) - 1) : Int)) : Int)) (T.leaf [D.b false]) T.fail)))))))))))) (T.leaf [D.b true]))))) := by kernel_rfl
set_option maxRecDepth 100000
theorem fn_weak {n f : Nat} {s : Sig} {G G' : List D → T (List D)} (h : FnOK C n f (mkF s G)) (hw : ∀ ds r, (G' ds).run = some r → (G ds).run = some r) : FnOK C n f (mkF s G') := h.mono fun args v hb hr => by
 unfold mkF at hr ⊢
 split
 ·rename_i ds hds
  simp only [hds, T.run_map, Option.map_eq_some_iff] at hr ⊢
  obtain ⟨r, h1, h2⟩ := hr
  exact ⟨r, hw _ _ h1, h2⟩
 ·rename_i hds
  simp only [hds] at hr
  cases hr
theorem ok14w (n : Nat) : FnOK C (n + 6) 14 (mkF s14 G14w) := fn_weak (ok14 n) fun ds r h => by
 unfold G14w at h
 split at h
 ·rename_i t r' s l
  obtain ⟨hp, h⟩ := need_some h
  rw [yes_iff] at hp
  have hp' : tankOk t.I r'.I s.I l.L = true := hp
  have hb : big = 4611686018427387904 := rfl
  have hl : l.L.length ≤ 50 := by
   have h2 := hp'
   simp only [tankOk, Bool.and_eq_true, decide_eq_true_eq] at h2
   exact h2.1.2
  unfold G14
  refine go_yes (by omega) ?_
  rw [hp']
  exact h
 ·cases h
theorem rg_ix (R : List (List D)) (j : Nat) : ix (R.getD j []) 0 = rgI R j := rfl
end Go.Proofs.Ytgoedfonmocafaa
