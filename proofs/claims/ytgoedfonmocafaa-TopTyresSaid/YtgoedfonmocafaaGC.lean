/-
  Shapes of arguments, results and loops. Written by program.
  What the functions of roads compute: short roads.
  Tables. Written by program.
  What the rounds and the functions come to. Written by program.
  Short roads.
  Shapes of arguments, results and loops. Written by program.
  What the functions of roads compute: measured roads.
  Tables. Written by program.
  What the rounds and the functions come to. Written by program.
  Measured roads: their lengths.
  Loops of roads: what a drive over a road, over its parts and back comes to.
-/
import Derived.Test.YtgoedfonmocafaaGB
namespace Go.Proofs.Ytgoedfonmocafaa
open Go.Lite
def s15 : Sig := ⟨[.agg [.k (.ro [.int .i64, .int .i64, .int .i64, .int .i64, .int .i64]), .k (.ro [.int .i64, .int .i64]), .k (.ro [.int .i64, .int .i64, .int .i64])], .k (.int .i64)], [(.k .bool, [])]⟩
end Go.Proofs.Ytgoedfonmocafaa

namespace Go.Proofs.Ytgoedfonmocafaa
open Go.Lite
noncomputable section
def shortR (p c j : List (List D)) (n : Int) : Bool := decide (p.length ≤ 15) && decide (c.length ≤ 20) && decide (j.length ≤ 20) && roadOk p c j && decide (lenR p ≤ n)
def G15 (ds : List D) : T (List D) := match ds with
  | [p, c, j, n] => .leaf [.b (shortR p.L c.L j.L n.I)]
  | _ => .fail
end
end Go.Proofs.Ytgoedfonmocafaa

namespace Go.Proofs.Ytgoedfonmocafaa
open Go.Lite
noncomputable def sp15 : SpL := [(39, mkF s39 G39), (19, mkF s19 G19)]
noncomputable def lp15 : LpL := []
noncomputable def sw15 : SwL := []
noncomputable def tab15 : Tab := mkTab sp15 lp15 sw15
end Go.Proofs.Ytgoedfonmocafaa

namespace Go.Proofs.Ytgoedfonmocafaa
open Go.Lite
set_option linter.unusedVariables false
set_option maxRecDepth 100000
theorem t15 (a b c d : D) : fnT C tab15 15 s15 [a, b, c, d] =
  T.ite (decide ((↑(List.length (D.L a)) : Int) > (15 : Int))) (T.leaf [D.b false]) (T.ite (decide ((↑(List.length (D.L b)) : Int) > (20 : Int))) (T.leaf [D.b false]) (T.ite (decide ((↑(List.length (D.L c)) : Int) > (20 : Int))) (T.leaf [D.b false]) (T.ite (!roadOk (D.L a) (D.L b) (D.L c)) (T.leaf [D.b false]) (T.need (yes (List.length (D.L a) ≤ 2000 ∧ allFrom (pieceAt (D.L a)) 0 (List.length (D.L a)) = true)) (T.leaf [D.b (decide (lenR (D.L a) ≤ D.I d))]))))) := by kernel_rfl
end Go.Proofs.Ytgoedfonmocafaa

namespace Go.Proofs.Ytgoedfonmocafaa
open Go.Lite
theorem ok15 (n : Nat) : FnOK C (n + 5) 15 (mkF s15 G15) := by
  refine fn_of hC (sp := sp15) (lp := lp15) ⟨ok39 n, ok19 (n + 1 + 1), trivial⟩ (by kernel_rfl) [] (by kernel_rfl) rfl (fun k hk => by cases hk) fun ds r h => ?_
  unfold G15 at h
  split at h
  · rename_i p c j m
    rw [← h]
    refine (congrArg T.run (t15 p c j m)).trans ?_
    simp only [run_ite, run_need, run_leaf, yes_iff, shortR]
    by_cases a1 : p.L.length ≤ 15
    case neg => simp [a1, show (p.L.length : Int) > 15 by omega]
    by_cases a2 : c.L.length ≤ 20
    case neg => simp [a2, show ¬ (p.L.length : Int) > 15 by omega, show (c.L.length : Int) > 20 by omega]
    by_cases a3 : j.L.length ≤ 20
    case neg => simp [a3, show ¬ (p.L.length : Int) > 15 by omega, show ¬ (c.L.length : Int) > 20 by omega, show (j.L.length : Int) > 20 by omega]
    by_cases a4 : roadOk p.L c.L j.L = true
    case neg => simp [a4, show ¬ (p.L.length : Int) > 15 by omega, show ¬ (c.L.length : Int) > 20 by omega, show ¬ (j.L.length : Int) > 20 by omega]
    have a5 : allFrom (pieceAt p.L) 0 p.L.length = true := by
      simp only [roadOk, Bool.and_eq_true] at a4
      exact a4.1.1.1.2
    simp [a1, a2, a3, a4, a5, show ¬ (p.L.length : Int) > 15 by omega, show ¬ (c.L.length : Int) > 20 by omega, show ¬ (j.L.length : Int) > 20 by omega, show p.L.length ≤ 2000 by omega]
  · cases h
end Go.Proofs.Ytgoedfonmocafaa

namespace Go.Proofs.Ytgoedfonmocafaa
open Go.Lite
def s52 : SigW := ⟨[.agg [.k (.ro [.int .i64, .int .i64, .int .i64, .int .i64, .int .i64]), .k (.ro [.int .i64, .int .i64]), .k (.ro [.int .i64, .int .i64, .int .i64])]], [], [(.ptr 0 4 0 0, [.box [.k (.ro [.int .i64, .int .i64, .int .i64, .int .i64, .int .i64]), .k (.ro [.int .i64, .int .i64]), .k (.ro [.int .i64, .int .i64, .int .i64]), .sl 1 1], .row [.int .i64]])]⟩
def l52_4 : LSig := mkLS [3, 4, 11, 12, 13] [(43, [(3, .ptr 0 4 0 0), (4, .k (.int .i64)), (11, .k (.ro [.int .i64, .int .i64, .int .i64, .int .i64, .int .i64])), (12, .k (.int .i64)), (13, .k (.int .i64))], [.box [.k (.ro [.int .i64, .int .i64, .int .i64, .int .i64, .int .i64]), .k (.ro [.int .i64, .int .i64]), .k (.ro [.int .i64, .int .i64, .int .i64]), .nils]]), (43, [(3, .ptr 0 4 0 0), (4, .k (.int .i64)), (11, .k (.ro [.int .i64, .int .i64, .int .i64, .int .i64, .int .i64])), (12, .k (.int .i64)), (13, .k (.int .i64))], [.box [.k (.ro [.int .i64, .int .i64, .int .i64, .int .i64, .int .i64]), .k (.ro [.int .i64, .int .i64]), .k (.ro [.int .i64, .int .i64, .int .i64]), .sl 1 1], .row [.int .i64]])] [(.exit 0, [3, 4], [(43, [(3, .ptr 0 4 0 0), (4, .k (.int .i64))], [.box [.k (.ro [.int .i64, .int .i64, .int .i64, .int .i64, .int .i64]), .k (.ro [.int .i64, .int .i64]), .k (.ro [.int .i64, .int .i64, .int .i64]), .nils]]), (43, [(3, .ptr 0 4 0 0), (4, .k (.int .i64))], [.box [.k (.ro [.int .i64, .int .i64, .int .i64, .int .i64, .int .i64]), .k (.ro [.int .i64, .int .i64]), .k (.ro [.int .i64, .int .i64, .int .i64]), .sl 1 1], .row [.int .i64]])])]
def s53 : Sig := ⟨[.eptr [.k (.ro [.int .i64, .int .i64, .int .i64, .int .i64, .int .i64]), .k (.ro [.int .i64, .int .i64]), .k (.ro [.int .i64, .int .i64, .int .i64]), .k (.ro [.int .i64])]], [(.k (.int .i64), [])]⟩
end Go.Proofs.Ytgoedfonmocafaa

namespace Go.Proofs.Ytgoedfonmocafaa
open Go.Lite
noncomputable section
/-- The beginnings of pieces. -/
def begs (l : List (List D)) : Nat → Nat → Int → List (List D)
  | _, 0, _ => []
  | i, k + 1, n => [D.i n] :: begs l (i + 1) k (n + ix (l.getD i []) 0)
def begR (l : List (List D)) : List (List D) := begs l 0 l.length 0 ++ [[D.i (lenR l)]]
def manyP (l : List (List D)) : Prop := 1 ≤ l.length ∧ l.length ≤ 2000 ∧ allFrom (pieceAt l) 0 l.length = true
def G52 (ds : List D) : T (List D) := match ds with
  | [p, c, j] => .need (yes (manyP p.L)) (.leaf [.l p.L, .l c.L, .l j.L, .i (p.L.length + 1 : Nat), .l (begR p.L)])
  | _ => .fail
def G52_4 (ds : List D) : T (Ex × List D) := match ds with
  | [h, n, q, m, i, p, c, j] => .need (yes (h.I = 0 ∧ n.I = 0 ∧ q.L = p.L ∧ m.I = p.L.length ∧ i.I = 0 ∧ manyP p.L))
      (.leaf (.exit 0, [.i 1, .i (lenR p.L), .l p.L, .l c.L, .l j.L, .i p.L.length, .l (begs p.L 0 p.L.length 0)]))
  | [h, n, q, m, i, p, c, j, s, r] => .need (yes (h.I = 1 ∧ q.L = p.L ∧ m.I = p.L.length ∧ 1 ≤ i.I ∧ i.I ≤ m.I ∧ manyP p.L ∧ s.I = i.I ∧ r.L.length = i.I ∧ 0 ≤ n.I ∧ n.I ≤ 5000 * i.I))
      (.leaf (.exit 0, [.i 1, .i (n.I + lenFrom p.L i.I.toNat (p.L.length - i.I.toNat)), .l p.L, .l c.L, .l j.L, .i p.L.length, .l (r.L ++ begs p.L i.I.toNat (p.L.length - i.I.toNat) n.I)]))
  | _ => .fail
def G53 (ds : List D) : T (List D) := match ds with
  | [p, _, _, r] => .need (yes (manyP p.L ∧ r.L = begR p.L)) (.leaf [.i (ix (r.L.getD p.L.length []) 0)])
  | _ => .fail
end
end Go.Proofs.Ytgoedfonmocafaa

namespace Go.Proofs.Ytgoedfonmocafaa
open Go.Lite
noncomputable def sp52 : SpL := []
noncomputable def lp52 : LpL := [(4, mkL l52_4 G52_4)]
noncomputable def sw52 : SwL := []
noncomputable def tab52 : Tab := mkTab sp52 lp52 sw52
noncomputable def sp53 : SpL := []
noncomputable def lp53 : LpL := []
noncomputable def sw53 : SwL := []
noncomputable def tab53 : Tab := mkTab sp53 lp53 sw53
end Go.Proofs.Ytgoedfonmocafaa

namespace Go.Proofs.Ytgoedfonmocafaa
open Go.Lite
set_option linter.unusedVariables false
set_option maxRecDepth 100000
theorem t52 (a b c : D) : fnTW C tab52 52 s52 [a, b, c] =
  T.need (yes ((↑0 : Int) = (0 : Int) ∧ (0 : Int) = (0 : Int) ∧ D.L a = D.L a ∧ (↑(List.length (D.L a)) : Int) = (↑(List.length (D.L a)) : Int) ∧ (0 : Int) = (0 : Int) ∧ manyP (D.L a))) (T.need true (T.ite false (T.leaf [D.l (D.L a), D.l (D.L b), D.l (D.L c), D.i (↑(Int.toNat (↑(List.length (D.L a)) : Int)) : Int), D.l (begs (D.L a) 0 (List.length (D.L a)) (0 : Int))]) (T.need (decide (Int.toNat (↑(List.length (D.L a)) : Int) ≤ List.length (begs (D.L a) 0 (List.length (D.L a)) (0 : Int)) ∧ Int.toNat (↑(List.length (D.L a)) : Int) + 1 ≤ 2 ^ 62 ∧ (Int.toNat (↑(List.length (D.L a)) : Int) + 1) * Try.prog.types[3].bytes ≤ 2 ^ 47)) (T.leaf [D.l (D.L a), D.l (D.L b), D.l (D.L c), D.i (↑(Int.toNat (↑(List.length (D.L a)) : Int) + 1) : Int), D.l (List.take (Int.toNat (↑(List.length (D.L a)) : Int)) (begs (D.L a) 0 (List.length (D.L a)) (0 : Int)) ++ List.take (List.length [[D.i (lenR (D.L a))]]) [[D.i (lenR (D.L a))]])])))) := by kernel_rfl
theorem t52_4_0 (a b c d e f g : D) : roundT C tab52 52 (loopOf C.P 52 4) l52_4 [.i 0, a, b, c, d, e, f, g] =
  T.ite (decide (D.I d < D.I c)) (T.need (decide ((0 : Int) ≤ D.I d ∧ D.I d < (↑(List.length (D.L b)) : Int))) (T.need true (T.ite false (T.leaf (Rd.again [D.i (0 : Int), D.i (IntKind.wrap IntKind.i64 (D.I a + D.I (List.getD (List.getD (D.L b) (Int.toNat (D.I d)) []) 0 default))), D.l (D.L b), D.i (D.I c), D.i (IntKind.wrap IntKind.i64 (D.I d + (1 : Int))), D.l (D.L e), D.l (D.L f), D.l (D.L g)])) (T.need true (T.leaf (Rd.again [D.i (1 : Int), D.i (IntKind.wrap IntKind.i64 (D.I a + D.I (List.getD (List.getD (D.L b) (Int.toNat (D.I d)) []) 0 default))), D.l (D.L b), D.i (D.I c), D.i (IntKind.wrap IntKind.i64 (D.I d + (1 : Int))), D.l (D.L e), D.l (D.L f), D.l (D.L g), D.i (1 : Int), D.l [[D.i (D.I a)]]])))))) (T.leaf (Rd.out (Ex.exit 0) [D.i (0 : Int), D.i (D.I a), D.l (D.L e), D.l (D.L f), D.l (D.L g)])) := by kernel_rfl
theorem t52_4_1 (a b c d e f g h i : D) : roundT C tab52 52 (loopOf C.P 52 4) l52_4 [.i 1, a, b, c, d, e, f, g, h, i] =
  T.ite (decide (D.I d < D.I c)) (T.need (decide ((0 : Int) ≤ D.I d ∧ D.I d < (↑(List.length (D.L b)) : Int))) (T.need true (T.ite false (T.leaf (Rd.again [D.i (1 : Int), D.i (IntKind.wrap IntKind.i64 (D.I a + D.I (List.getD (List.getD (D.L b) (Int.toNat (D.I d)) []) 0 default))), D.l (D.L b), D.i (D.I c), D.i (IntKind.wrap IntKind.i64 (D.I d + (1 : Int))), D.l (D.L e), D.l (D.L f), D.l (D.L g), D.i (↑(Int.toNat (D.I h)) : Int), D.l (D.L i)])) (T.need (decide (Int.toNat (D.I h) ≤ List.length (D.L i) ∧ Int.toNat (D.I h) + 1 ≤ 2 ^ 62 ∧ (Int.toNat (D.I h) + 1) * Try.prog.types[3].bytes ≤ 2 ^ 47)) (T.leaf (Rd.again [D.i (1 : Int), D.i (IntKind.wrap IntKind.i64 (D.I a + D.I (List.getD (List.getD (D.L b) (Int.toNat (D.I d)) []) 0 default))), D.l (D.L b), D.i (D.I c), D.i (IntKind.wrap IntKind.i64 (D.I d + (1 : Int))), D.l (D.L e), D.l (D.L f), D.l (D.L g), D.i (↑(Int.toNat (D.I h) + 1) : Int), D.l (List.take (Int.toNat (D.I h)) (D.L i) ++ List.take (List.length [[D.i (D.I a)]]) [[D.i (D.I a)]])])))))) (T.leaf (Rd.out (Ex.exit 0) [D.i (1 : Int), D.i (D.I a), D.l (D.L e), D.l (D.L f), D.l (D.L g), D.i (↑(Int.toNat (D.I h)) : Int), D.l (D.L i)])) := by kernel_rfl
theorem t53 (a b c d : D) : fnT C tab53 53 s53 [a, b, c, d] =
  T.need (decide ((0 : Int) ≤ (↑(List.length (D.L a)) : Int) ∧ (↑(List.length (D.L a)) : Int) < (↑(List.length (D.L d)) : Int))) (T.leaf [D.i (D.I (List.getD (List.getD (D.L d) (Int.toNat (↑(List.length (D.L a)) : Int)) []) 0 default))]) := by kernel_rfl
end Go.Proofs.Ytgoedfonmocafaa

namespace Go.Proofs.Ytgoedfonmocafaa
open Go.Lite
theorem begs_length (l : List (List D)) : ∀ (k i : Nat) (n : Int), (begs l i k n).length = k
  | 0, _, _ => rfl
  | k + 1, i, n => by simp only [begs, List.length_cons, begs_length l k]
theorem begR_length (l : List (List D)) : (begR l).length = l.length + 1 := by simp [begR, begs_length]
theorem ok53 (n : Nat) : FnOK C (n + 1) 53 (mkF s53 G53) := by
  refine fn_of hC (sp := sp53) (lp := lp53) trivial (by kernel_rfl) [] (by kernel_rfl) rfl (fun k hk => by cases hk) fun ds r h => ?_
  unfold G53 at h
  split at h
  · rename_i p c j b
    obtain ⟨hp, h⟩ := need_some h
    rw [yes_iff] at hp
    rw [← h]
    refine (congrArg T.run (t53 p c j b)).trans ?_
    have hl : b.L.length = p.L.length + 1 := by rw [hp.2, begR_length]
    simp only [run_need, run_leaf, ix_def, Int.toNat_natCast, show (0 : Int) ≤ (p.L.length : Int) ∧ (p.L.length : Int) < (b.L.length : Int) from by omega, and_self, decide_true, if_true]
  · cases h
end Go.Proofs.Ytgoedfonmocafaa

namespace Go.Proofs.Ytgoedfonmocafaa
open Go.Lite
noncomputable section
/-- A piece as a stretch. -/
def lpE (dg : Int) (wt : Bool) (x : List D) : List D := [.i (IntKind.i64.wrap (ix x 4 - 1)), .i (ix x 0), .i dg, .b wt]
def lpL (dg : Int) (wt : Bool) (p : List (List D)) : List (List D) := p.map (lpE dg wt)
/-- Beginnings and pieces. -/
def yldP (l : List (List D)) : Nat → Nat → Int → List (List D)
  | _, 0, _ => []
  | i, k + 1, n => [.i n, .i (ix (l.getD i []) 0), .i (ix (l.getD i []) 1), .i (ix (l.getD i []) 2), .i (ix (l.getD i []) 3), .i (ix (l.getD i []) 4)] :: yldP l (i + 1) k (n + ix (l.getD i []) 0)
/-- What lies of a piece between two places. -/
def cutY (a b : Int) (x : List D) : List (List D) :=
  if maxI (ix x 0) a < minI (ix x 0 + ix x 1) b then [[.i (minI (ix x 0 + ix x 1) b - maxI (ix x 0) a), .i (ix x 2), .i (ix x 3), .i (ix x 4), .i (ix x 5)]] else []
def partY (a b : Int) (L : List (List D)) : List (List D) := L.flatMap (cutY a b)
end
section
variable {dry wet wl : List (List D)} {loss : Int}
/-- What all stretches wear. -/
def useL (wl l : List (List D)) : Int := (l.map fun c => ix c 1 * ix (wl.getD (ix c 0).toNat []) 0).sum
theorem driveL_wear : ∀ (l : List (List D)) (w s : Int) (b : Bool), (∀ c ∈ l, 0 ≤ ix c 1 * ix (wl.getD (ix c 0).toNat []) 0) → w ≤ 1000000 → (driveL dry wet wl loss l w s b).1 = if w + useL wl l > 1000000 then 1000000 else w + useL wl l
  | [], w, s, b, _, h => by
    simp only [driveL, useL, List.map_nil, List.sum_nil, Int.add_zero]
    rw [if_neg (by omega)]
  | c :: l, w, s, b, hl, h => by
    have h0 := hl c (by simp)
    have h1 : 0 ≤ useL wl l := by
      have : ∀ (m : List (List D)), (∀ c ∈ m, 0 ≤ ix c 1 * ix (wl.getD (ix c 0).toNat []) 0) → 0 ≤ useL wl m := fun m => by
        induction m with
        | nil => intro _; simp [useL]
        | cons d m ih =>
          intro hm
          have := ih fun c hc => hm c (by simp [hc])
          have := hm d (by simp)
          simp only [useL, List.map_cons, List.sum_cons] at *
          omega
      exact this l fun c hc => hl c (by simp [hc])
    simp only [driveL]
    have e : useL wl (c :: l) = ix c 1 * ix (wl.getD (ix c 0).toNat []) 0 + useL wl l := by simp only [useL, List.map_cons, List.sum_cons]
    rw [e]
    have es : stepWear wl w c = w + ix c 1 * ix (wl.getD (ix c 0).toNat []) 0 := rfl
    rw [es]
    split
    · rw [driveL_wear l _ _ _ (fun c hc => hl c (by simp [hc])) (by omega)]
      split <;> split <;> omega
    · rw [driveL_wear l _ _ _ (fun c hc => hl c (by simp [hc])) (by omega)]
      rw [Int.add_assoc]
theorem useL_reverse (l : List (List D)) : useL wl l.reverse = useL wl l := by
  unfold useL
  rw [List.map_reverse, List.sum_reverse]
end
theorem getD_mem {l : List (List D)} {x : List D} (h : x ∈ l) : ∃ k, k < l.length ∧ l.getD k [] = x := by
  obtain ⟨k, hk, rfl⟩ := List.getElem_of_mem h
  exact ⟨k, hk, by simp [List.getD_eq_getElem?_getD, hk]⟩
theorem piece_rng {l : List (List D)} (h : allFrom (pieceAt l) 0 l.length = true) {k : Nat} (hk : k < l.length) : (1 ≤ ix (l.getD k []) 0 ∧ ix (l.getD k []) 0 ≤ 5000) ∧ 1 ≤ ix (l.getD k []) 4 ∧ ix (l.getD k []) 4 ≤ 9 := by
  have := allFrom_iff.1 h k (Nat.zero_le _) (by omega)
  simp only [pieceAt, pieceP, Bool.and_eq_true, Lite.within_iff] at this
  exact ⟨this.1.1.1.1, this.1.2⟩
/-- The loop of a road is as it must be. -/
theorem loop_ok {p : List (List D)} {dg : Int} {wt : Bool} (hl : p.length ≤ 30) (hd : -40 ≤ dg ∧ dg ≤ 80) (h : ∀ x ∈ p, (1 ≤ ix x 0 ∧ ix x 0 ≤ 5000) ∧ 1 ≤ ix x 4 ∧ ix x 4 ≤ 8) : loopOk (lpL dg wt p) 8 = true := by
  unfold loopOk
  rw [Bool.and_eq_true, decide_eq_true_eq, allFrom_iff]
  refine ⟨by simpa [lpL] using hl, fun j _ hj => ?_⟩
  have hj' : j < p.length := by simpa [lpL] using hj
  have e : (lpL dg wt p).getD j [] = lpE dg wt (p.getD j []) := by simp [lpL, List.getD_eq_getElem?_getD, hj']
  have hx := h (p.getD j []) (by simp [List.getD_eq_getElem?_getD, hj'])
  have w : IntKind.i64.wrap (ix (p.getD j []) 4 - 1) = ix (p.getD j []) 4 - 1 := wrap_id (by omega) (by omega)
  have f0 : ix (lpE dg wt (p.getD j [])) 0 = ix (p.getD j []) 4 - 1 := w
  have f1 : ix (lpE dg wt (p.getD j [])) 1 = ix (p.getD j []) 0 := rfl
  have f2 : ix (lpE dg wt (p.getD j [])) 2 = dg := rfl
  simp only [stretchAt, stretchP, e, f0, f1, f2, Bool.and_eq_true, Lite.within_iff]
  omega
theorem lenFrom_add (l : List (List D)) : ∀ (j k i : Nat), lenFrom l i (j + k) = lenFrom l i j + lenFrom l (i + j) k
  | 0, k, i => by simp [lenFrom]
  | j + 1, k, i => by
    rw [show j + 1 + k = (j + k) + 1 by omega]
    simp only [lenFrom]
    rw [lenFrom_add l j k (i + 1), show i + 1 + j = i + (j + 1) by omega]
    omega
theorem lenFrom_pos {l : List (List D)} : ∀ (k i : Nat), (∀ j, i ≤ j → j < i + k → 0 ≤ ix (l.getD j []) 0) → 0 ≤ lenFrom l i k
  | 0, _, _ => by simp [lenFrom]
  | k + 1, i, h => by
    have h1 := lenFrom_pos (l := l) k (i + 1) fun j a b => h j (by omega) (by omega)
    have h2 := h i (Nat.le_refl _) (by omega)
    simp only [lenFrom]
    omega
/-- Pieces that lie between two places. -/
theorem part_in {p : List (List D)} {dg a b : Int} {wt : Bool} : ∀ (k i : Nat) (n : Int), i + k ≤ p.length → (∀ j, i ≤ j → j < i + k → 1 ≤ ix (p.getD j []) 0) → a ≤ n → n + lenFrom p i k ≤ b →
    lpL dg wt (partY a b (yldP p i k n)) = (lpL dg wt (p.drop i)).take k
  | 0, _, _, _, _, _, _ => by simp [yldP, partY, lpL]
  | k + 1, i, n, hi, hp, ha, hb => by
    have h0 := hp i (Nat.le_refl _) (by omega)
    have h1 := lenFrom_pos (l := p) k (i + 1) fun j x y => by have := hp j (by omega) (by omega); omega
    simp only [lenFrom] at hb
    have ih := part_in (p := p) (dg := dg) (wt := wt) (a := a) (b := b) k (i + 1) (n + ix (p.getD i []) 0) (by omega) (fun j x y => hp j (by omega) (by omega)) (by omega) (by omega)
    have hlt : i < p.length := by omega
    have e : p.drop i = p.getD i [] :: p.drop (i + 1) := by
      rw [List.drop_eq_getElem_cons hlt]
      simp [List.getD_eq_getElem?_getD, hlt]
    have hmax : maxI n a = n := by unfold maxI; rw [if_neg (by omega)]
    have hmin : minI (n + ix (p.getD i []) 0) b = n + ix (p.getD i []) 0 := by unfold minI; rw [if_neg (by omega)]
    have hc : cutY a b [.i n, .i (ix (p.getD i []) 0), .i (ix (p.getD i []) 1), .i (ix (p.getD i []) 2), .i (ix (p.getD i []) 3), .i (ix (p.getD i []) 4)] = [[.i (ix (p.getD i []) 0), .i (ix (p.getD i []) 1), .i (ix (p.getD i []) 2), .i (ix (p.getD i []) 3), .i (ix (p.getD i []) 4)]] := by
      show (if maxI n a < minI (n + ix (p.getD i []) 0) b then [[D.i (minI (n + ix (p.getD i []) 0) b - maxI n a), .i (ix (p.getD i []) 1), .i (ix (p.getD i []) 2), .i (ix (p.getD i []) 3), .i (ix (p.getD i []) 4)]] else []) = _
      rw [hmax, hmin, if_pos (by omega), show n + ix (p.getD i []) 0 - n = ix (p.getD i []) 0 by omega]
    rw [e]
    simp only [yldP, partY, List.flatMap_cons, hc, lpL, List.map_cons, List.cons_append, List.nil_append, List.take_succ_cons]
    exact List.cons_eq_cons.2 ⟨rfl, ih⟩
/-- Pieces that lie before the first place, or behind the second. -/
theorem part_out {p : List (List D)} {a b : Int} : ∀ (k i : Nat) (n : Int), (∀ j, i ≤ j → j < i + k → 1 ≤ ix (p.getD j []) 0) → n + lenFrom p i k ≤ a ∨ b ≤ n → partY a b (yldP p i k n) = []
  | 0, _, _, _, _ => by simp [yldP, partY]
  | k + 1, i, n, hp, h => by
    have h0 := hp i (Nat.le_refl _) (by omega)
    have h1 := lenFrom_pos (l := p) k (i + 1) fun j x y => by have := hp j (by omega) (by omega); omega
    simp only [lenFrom] at h
    have ih := part_out (p := p) (a := a) (b := b) k (i + 1) (n + ix (p.getD i []) 0) (fun j x y => hp j (by omega) (by omega)) (by omega)
    have hc : cutY a b [.i n, .i (ix (p.getD i []) 0), .i (ix (p.getD i []) 1), .i (ix (p.getD i []) 2), .i (ix (p.getD i []) 3), .i (ix (p.getD i []) 4)] = [] := by
      show (if maxI n a < minI (n + ix (p.getD i []) 0) b then [[D.i (minI (n + ix (p.getD i []) 0) b - maxI n a), .i (ix (p.getD i []) 1), .i (ix (p.getD i []) 2), .i (ix (p.getD i []) 3), .i (ix (p.getD i []) 4)]] else []) = _
      rw [if_neg]
      unfold maxI minI
      split <;> split <;> omega
    simp only [yldP, partY, List.flatMap_cons, hc, List.nil_append]
    exact ih
theorem yldP_add (l : List (List D)) : ∀ (j k i : Nat) (n : Int), yldP l i (j + k) n = yldP l i j n ++ yldP l (i + j) k (n + lenFrom l i j)
  | 0, k, i, n => by simp [yldP, lenFrom]
  | j + 1, k, i, n => by
    rw [show j + 1 + k = (j + k) + 1 by omega]
    simp only [yldP, lenFrom, List.cons_append]
    rw [yldP_add l j k (i + 1), show i + 1 + j = i + (j + 1) by omega, Int.add_assoc]
/-- Both parts of a road that is cut where a piece ends. -/
theorem part_both {p : List (List D)} {dg : Int} {wt : Bool} {k : Nat} (hk : k ≤ p.length) (hp : ∀ j, j < p.length → 1 ≤ ix (p.getD j []) 0) :
    lpL dg wt (partY 0 (lenFrom p 0 k) (yldP p 0 p.length 0)) = (lpL dg wt p).take k ∧ lpL dg wt (partY (lenFrom p 0 k) (lenR p) (yldP p 0 p.length 0)) = (lpL dg wt p).drop k := by
  have e : p.length = k + (p.length - k) := by omega
  have e1 : yldP p 0 p.length 0 = yldP p 0 k 0 ++ yldP p k (p.length - k) (lenFrom p 0 k) := by
    have := yldP_add p k (p.length - k) 0 0
    rw [← e] at this
    simpa using this
  have e2 : lenR p = lenFrom p 0 k + lenFrom p k (p.length - k) := by
    have := lenFrom_add p k (p.length - k) 0
    rw [← e] at this
    simpa [lenR] using this
  have hap : ∀ a b (x y : List (List D)), partY a b (x ++ y) = partY a b x ++ partY a b y := fun a b x y => by simp [partY]
  rw [e1, hap, hap]
  constructor
  · rw [part_out (p := p) (p.length - k) k _ (fun j x y => hp j (by omega)) (.inr (Int.le_refl _)), List.append_nil]
    have := part_in (p := p) (dg := dg) (wt := wt) (a := 0) (b := lenFrom p 0 k) k 0 0 (by omega) (fun j x y => hp j (by omega)) (Int.le_refl _) (by omega)
    simpa using this
  · rw [part_out (p := p) k 0 0 (fun j x y => hp j (by omega)) (.inl (by omega)), List.nil_append]
    have := part_in (p := p) (dg := dg) (wt := wt) (a := lenFrom p 0 k) (b := lenR p) (p.length - k) k (lenFrom p 0 k) (by omega) (fun j x y => hp j (by omega)) (Int.le_refl _) (by omega)
    rw [this, List.take_of_length_le (by simp [lpL])]
    simp [lpL]
theorem loopOk_take {l : List (List D)} {n : Int} (h : loopOk l n = true) (k : Nat) : loopOk (l.take k) n = true ∧ loopOk (l.drop k) n = true := by
  simp only [loopOk, Bool.and_eq_true, decide_eq_true_eq, allFrom_iff, stretchAt] at h ⊢
  refine ⟨⟨by simp; omega, fun j h1 h2 => ?_⟩, ⟨by simp; omega, fun j h1 h2 => ?_⟩⟩
  · have hj : j < (l.take k).length := by omega
    have := h.2 j (Nat.zero_le _) (by simp at hj; omega)
    have e : (l.take k).getD j [] = l.getD j [] := by
      simp only [List.getD_eq_getElem?_getD, List.getElem?_take]
      rw [if_pos (by simp at hj; omega)]
    rw [e]; exact this
  · have hj : j < (l.drop k).length := by omega
    have := h.2 (k + j) (Nat.zero_le _) (by simp at hj; omega)
    have e : (l.drop k).getD j [] = l.getD (k + j) [] := by
      simp only [List.getD_eq_getElem?_getD, List.getElem?_drop]
    rw [e]; exact this
theorem loopOk_reverse {l : List (List D)} {n : Int} (h : loopOk l n = true) : loopOk l.reverse n = true := by
  simp only [loopOk, Bool.and_eq_true, decide_eq_true_eq, allFrom_iff, stretchAt] at h ⊢
  refine ⟨by simpa using h.1, fun j _ h2 => ?_⟩
  simp only [List.length_reverse, Nat.zero_add] at h2
  have := h.2 (l.length - 1 - j) (Nat.zero_le _) (by omega)
  have e : l.reverse.getD j [] = l.getD (l.length - 1 - j) [] := by
    simp only [List.getD_eq_getElem?_getD, List.getElem?_reverse h2]
  rw [e]; exact this
theorem tyres_fact {dry wet wl : List (List D)} {loss w : Int} {l : List (List D)} {k : Nat} (hp : drivePre dry wet wl loss l) (h0 : 0 ≤ w) (h2 : w ≤ 1000000) :
    (0 ≤ (drive dry wet wl loss (l.take k) w).1 ∧ (drive dry wet wl loss (l.take k) w).1 ≤ 1000000) ∧
    (drive dry wet wl loss l w).2.1 = (drive dry wet wl loss (l.take k) w).2.1 + (drive dry wet wl loss (l.drop k) (drive dry wet wl loss (l.take k) w).1).2.1 ∧
    (0 ≤ (drive dry wet wl loss l w).2.1 ∧ (drive dry wet wl loss l w).2.1 ≤ 100000 * 30) ∧
    (drive dry wet wl loss l w).1 = (drive dry wet wl loss (l.drop k) (drive dry wet wl loss (l.take k) w).1).1 ∧
    ((drive dry wet wl loss l w).2.2 = true → (drive dry wet wl loss (l.take k) w).2.2 = true) ∧
    (0 ≤ (drive dry wet wl loss l w).1 ∧ (drive dry wet wl loss l w).1 ≤ 1000000) ∧
    ∀ e, 0 ≤ e → e ≤ 1000000 → (drive dry wet wl loss l.reverse e).1 = (drive dry wet wl loss l e).1 := by
  have hf := fun c hc => (fine_of hp c hc).1
  have hb := fun c hc => (fine_of hp c hc).2
  simp only [drive_L]
  have e1 := driveL_append (dry := dry) (wet := wet) (wl := wl) (loss := loss) (l.take k) (l.drop k) w 0 true
  rw [List.take_append_drop] at e1
  obtain ⟨a1, a2, a3⟩ := driveL_sum (dry := dry) (wet := wet) (wl := wl) (loss := loss) (l.drop k) (driveL dry wet wl loss (l.take k) w 0 true).1 (driveL dry wet wl loss (l.take k) w 0 true).2.1 (driveL dry wet wl loss (l.take k) w 0 true).2.2
  have b3 := driveL_bound l w 0 true hf hb h0 (by omega)
  have hlen := (stretch_of hp.2).1
  have hu : ∀ c ∈ l, 0 ≤ ix c 1 * ix (wl.getD (ix c 0).toNat []) 0 := fun c hc => by
    have := (hf c hc 0 0 (Int.le_refl _) (Int.le_refl _) (by omega)).2.1
    unfold stepWear at this
    omega
  refine ⟨driveL_range _ _ _ _ (fun c hc => hf c (List.mem_of_mem_take hc)) h0 (by omega), by rw [e1, a2], ⟨by omega, by omega⟩, by rw [e1, a1], fun h => ?_, driveL_range _ _ _ _ hf h0 (by omega), fun e he0 he1 => ?_⟩
  · rw [e1, a3, Bool.and_eq_true] at h
    exact h.1
  · rw [driveL_wear _ _ _ _ (fun c hc => hu c (List.mem_reverse.1 hc)) he1, driveL_wear _ _ _ _ hu he1, useL_reverse]
end Go.Proofs.Ytgoedfonmocafaa
