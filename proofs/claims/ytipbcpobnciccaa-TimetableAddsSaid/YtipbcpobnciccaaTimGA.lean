/-
  What all proofs of this seat use.
  Shapes of arguments, results and loops. Written by program.
  What the functions that say which nets are as defined compute.
  Tables. Written by program.
  What the rounds and the functions come to. Written by program.
  The functions that say which nets are as defined compute what their words say.
-/
import Derived.Test.YtipbcpobnciccaaSymGo
import Derived.Test.YtipbcpobnciccaaCfg
namespace Go.Proofs.Ytipbcpobnciccaa
open Go.Lite
set_option maxRecDepth 100000

theorem hC : ∀ t Y, C.ty t = some Y → tyOf C.P t = some Y := by
  intro t Y h
  dsimp only [C] at h ⊢
  exact h
theorem fuelC : C.fuel = 18446744073709551616 := by kernel_rfl
theorem big_eq : big = 4611686018427387904 := rfl
theorem max_if (a b : Int) : (if b > a then b else a) = max a b := by
  rw [Int.max_def]
  by_cases h : b > a
  · rw [if_pos h, if_pos (by omega)]
  · rw [if_neg h]
    by_cases h2 : a ≤ b
    · rw [if_pos h2]; omega
    · rw [if_neg h2]
theorem within_dec {x a b : Int} : Lite.within x a b = decide (a ≤ x ∧ x ≤ b) := by simp [Lite.within]
/-! ### Steps of loops -/
section
variable {α : Type} {p : Nat → Bool} {i len : Nat} {rt rf r : α}
theorem all_step (h : (T.ite (allFrom p i (len - i)) (.leaf rt) (.leaf rf)).run = some r) (hlt : i < len) : (p i = false → some rf = some r) ∧ (p i = true → (T.ite (allFrom p (i + 1) (len - (i + 1))) (.leaf rt) (.leaf rf)).run = some r) := by
  rw [show len - i = (len - (i + 1)) + 1 by omega] at h
  simp only [allFrom] at h
  refine ⟨fun hp => ?_, fun hp => ?_⟩
  · rw [hp, Bool.false_and] at h; exact h
  · rw [hp, Bool.true_and] at h; exact h
theorem all_end (h : (T.ite (allFrom p i (len - i)) (.leaf rt) (.leaf rf)).run = some r) (hge : ¬ i < len) : some rt = some r := by
  rw [show len - i = 0 by omega] at h
  exact h
end
section
variable {p : Nat → Bool} {i len : Nat} {ro r : Ex × List D}
theorem first_step (h : (T.ite (decide (firstFrom p i (len - i) ≥ 0)) (.leaf (.ret, [.i (firstFrom p i (len - i))])) (.leaf ro)).run = some r) (hlt : i < len) :
    (p i = true → some (Ex.ret, [D.i (i : Int)]) = some r) ∧ (p i = false → (T.ite (decide (firstFrom p (i + 1) (len - (i + 1)) ≥ 0)) (.leaf (.ret, [.i (firstFrom p (i + 1) (len - (i + 1)))])) (.leaf ro)).run = some r) := by
  rw [show len - i = (len - (i + 1)) + 1 by omega] at h
  simp only [firstFrom] at h
  refine ⟨fun hp => ?_, fun hp => ?_⟩
  · simp only [hp, if_true, run_ite, run_leaf] at h
    rw [if_pos (by simp)] at h
    exact h
  · simp only [hp, Bool.false_eq_true, if_false] at h
    exact h
theorem first_end (h : (T.ite (decide (firstFrom p i (len - i) ≥ 0)) (.leaf (.ret, [.i (firstFrom p i (len - i))])) (.leaf ro)).run = some r) (hge : ¬ i < len) : some ro = some r := by
  rw [show len - i = 0 by omega] at h
  simp only [firstFrom, run_ite, run_leaf] at h
  rw [if_neg (by simp)] at h
  exact h
end

/-- Where a head has several shapes, a number says which. -/
theorem roundTK_head {C : Cfg} {tab : Tab} {f : FuncId} {b : Code} {k : Nat} {s : LSig} {j : D} {n : Int} {r : List D} (h : j.I = n) (hs : 2 ≤ s.head.length) : roundTK C tab f b k s (j :: r) = roundTK C tab f b k s (.i n :: r) := by
  obtain ⟨live, head, exits⟩ := s
  match head, hs with
  | a :: b :: c, _ => simp only [roundTK, headA, List.headD_cons, List.tail_cons, I_i, h]
theorem bytes3 : (Try.prog.types[3].bytes : Int) = 8 := by kernel_rfl
theorem bytes58 : Try.prog.types[58].bytes = 24 := by kernel_rfl
end Go.Proofs.Ytipbcpobnciccaa

namespace Go.Proofs.Ytipbcpobnciccaa
open Go.Lite
def s48 : Sig := ⟨[.k (.int .i64), .k (.int .i64), .k (.int .i64)], [(.k .bool, [])]⟩
def s54 : Sig := ⟨[.k (.int .i64), .k (.int .i64), .k (.int .i64)], [(.k .bool, [])]⟩
def s74 : Sig := ⟨[.agg [.k (.int .i64), .k (.int .i64), .k (.int .i64)], .eptr [.k (.int .i64)]], [(.k .bool, [])]⟩
def s51 : Sig := ⟨[.k (.ro [.int .i64, .int .i64, .int .i64]), .fn 74 [] [.eptr [.k (.int .i64)]]], [(.k (.int .i64), [])]⟩
def l51_2 : LSig := mkLS [0, 1, 7, 8] [(19, [(0, .k (.ro [.int .i64, .int .i64, .int .i64])), (1, .fn 74 [] [.eptr [.k (.int .i64)]]), (7, .k (.int .i64)), (8, .k (.int .i64))], [])] [(.ret, [4], [(19, [(4, .k (.int .i64))], [])]), (.exit 0, [], [(19, [], [])])]
def s63 : Sig := ⟨[.k (.ro [.int .i64, .int .i64, .int .i64]), .fn 74 [] [.eptr [.k (.int .i64)]]], [(.k .bool, [])]⟩
def s47 : Sig := ⟨[.k (.int .i64), .k (.ro [.int .i64, .int .i64, .int .i64])], [(.k .bool, [])]⟩
def s18 : Sig := ⟨[.k (.int .i64), .k (.ro [.int .i64, .int .i64, .int .i64])], [(.k .bool, [])]⟩
def l18_4 : LSig := mkLS [0, 1, 5] [(45, [(0, .k (.int .i64)), (1, .k (.ro [.int .i64, .int .i64, .int .i64])), (5, .k (.int .i64))], [])] [(.ret, [4], [(45, [(4, .k .bool)], [])]), (.exit 0, [], [(45, [], [])])]
def s75 : Sig := ⟨[.k (.ro [.int .i64, .int .i64, .int .i64])], [(.sl 0 3, [.row [.int .i64, .int .i64, .int .i64]]), (.emp 3, [])]⟩
end Go.Proofs.Ytipbcpobnciccaa

namespace Go.Proofs.Ytipbcpobnciccaa
open Go.Lite
noncomputable section

/-! ### Links -/
def lkF (l : List (List D)) (i : Nat) : Int := ix (l.getD i []) 0
def lkT (l : List (List D)) (i : Nat) : Int := ix (l.getD i []) 1
def lkW (l : List (List D)) (i : Nat) : Int := ix (l.getD i []) 2
def linkP (n f t w : Int) : Bool := Lite.within f 0 (n - 1) && Lite.within t 0 (n - 1) && Lite.within w (-1000000) 1000000
def linkOk (n : Int) (l : List (List D)) (i : Nat) : Bool := linkP n (lkF l i) (lkT l i) (lkW l i)
def netOk (n : Int) (l : List (List D)) : Bool := Lite.within n 1 500 && decide (l.length ≤ 5000) && allFrom (linkOk n l) 0 l.length

/-! ### The functions -/
def G48 (ds : List D) : T (List D) := match ds with
  | [n, a, b] => .leaf [.b (Lite.within n.I a.I b.I)]
  | _ => .fail
def G54 (ds : List D) : T (List D) := match ds with
  | [n, a, b] => .leaf [.b (Lite.within n.I a.I b.I)]
  | _ => .fail
def G74 (ds : List D) : T (List D) := match ds with
  | [f, t, w, n] => .need (yes (1 ≤ n.I ∧ n.I ≤ 500)) (.leaf [.b (!linkP n.I f.I t.I w.I)])
  | _ => .fail
def G51 (ds : List D) : T (List D) := match ds with
  | [l, n] => .need (yes (1 ≤ n.I ∧ n.I ≤ 500 ∧ l.L.length < big)) (.leaf [.i (firstFrom (fun j => !linkOk n.I l.L j) 0 l.L.length)])
  | _ => .fail
def G51_2 (ds : List D) : T (Ex × List D) := match ds with
  | [l, n, m, i] => .need (yes (1 ≤ n.I ∧ n.I ≤ 500 ∧ l.L.length < big ∧ m.I = l.L.length ∧ 0 ≤ i.I ∧ i.I ≤ l.L.length))
      (.ite (decide (firstFrom (fun j => !linkOk n.I l.L j) i.I.toNat (l.L.length - i.I.toNat) ≥ 0)) (.leaf (.ret, [.i (firstFrom (fun j => !linkOk n.I l.L j) i.I.toNat (l.L.length - i.I.toNat))])) (.leaf (.exit 0, [])))
  | _ => .fail
def G63 (ds : List D) : T (List D) := match ds with
  | [l, n] => .need (yes (1 ≤ n.I ∧ n.I ≤ 500 ∧ l.L.length < big)) (.leaf [.b (!allFrom (linkOk n.I l.L) 0 l.L.length)])
  | _ => .fail
def G47 (ds : List D) : T (List D) := match ds with
  | [n, l] => .need (yes (l.L.length < big)) (.leaf [.b (netOk n.I l.L)])
  | _ => .fail
def G18 (ds : List D) : T (List D) := match ds with
  | [n, l] => .need (yes (l.L.length < big)) (.leaf [.b (netOk n.I l.L)])
  | _ => .fail
def G18_4 (ds : List D) : T (Ex × List D) := match ds with
  | [n, l, i] => .need (yes (1 ≤ n.I ∧ n.I ≤ 500 ∧ l.L.length < big ∧ 0 ≤ i.I ∧ i.I ≤ l.L.length))
      (.ite (allFrom (linkOk n.I l.L) i.I.toNat (l.L.length - i.I.toNat)) (.leaf (.exit 0, [])) (.leaf (.ret, [.b false])))
  | _ => .fail
end
end Go.Proofs.Ytipbcpobnciccaa

namespace Go.Proofs.Ytipbcpobnciccaa
open Go.Lite
noncomputable def sp48 : SpL := []
noncomputable def lp48 : LpL := []
noncomputable def sw48 : SwL := []
noncomputable def tab48 : Tab := mkTab sp48 lp48 sw48
noncomputable def sp54 : SpL := []
noncomputable def lp54 : LpL := []
noncomputable def sw54 : SwL := []
noncomputable def tab54 : Tab := mkTab sp54 lp54 sw54
noncomputable def sp74 : SpL := [(48, mkF s48 G48)]
noncomputable def lp74 : LpL := []
noncomputable def sw74 : SwL := []
noncomputable def tab74 : Tab := mkTab sp74 lp74 sw74
noncomputable def sp51 : SpL := [(74, mkF s74 G74)]
noncomputable def lp51 : LpL := [(2, mkL l51_2 G51_2)]
noncomputable def sw51 : SwL := []
noncomputable def tab51 : Tab := mkTab sp51 lp51 sw51
noncomputable def sp63 : SpL := [(51, mkF s51 G51), (74, mkF s74 G74)]
noncomputable def lp63 : LpL := []
noncomputable def sw63 : SwL := []
noncomputable def tab63 : Tab := mkTab sp63 lp63 sw63
noncomputable def sp47 : SpL := [(48, mkF s48 G48), (63, mkF s63 G63), (74, mkF s74 G74)]
noncomputable def lp47 : LpL := []
noncomputable def sw47 : SwL := []
noncomputable def tab47 : Tab := mkTab sp47 lp47 sw47
noncomputable def sp18 : SpL := [(54, mkF s54 G54)]
noncomputable def lp18 : LpL := [(4, mkL l18_4 G18_4)]
noncomputable def sw18 : SwL := []
noncomputable def tab18 : Tab := mkTab sp18 lp18 sw18
noncomputable def sp75 : SpL := []
noncomputable def lp75 : LpL := []
noncomputable def sw75 : SwL := []
noncomputable def tab75 : Tab := mkTab sp75 lp75 sw75
end Go.Proofs.Ytipbcpobnciccaa

namespace Go.Proofs.Ytipbcpobnciccaa
open Go.Lite
set_option linter.unusedVariables false
set_option maxRecDepth 100000
theorem t48 (a b c : D) : fnT C tab48 48 s48 [a, b, c] =
  T.ite (decide (D.I a ≥ D.I b)) (T.leaf [D.b (decide (D.I a ≤ D.I c))]) (T.leaf [D.b false]) := by kernel_rfl
theorem t54 (a b c : D) : fnT C tab54 54 s54 [a, b, c] =
  T.ite (decide (D.I a ≥ D.I b)) (T.leaf [D.b (decide (D.I a ≤ D.I c))]) (T.leaf [D.b false]) := by kernel_rfl
theorem t74 (a b c d : D) : fnT C tab74 74 s74 [a, b, c, d] =
  T.ite (!within (D.I a) (0 : Int) (IntKind.wrap IntKind.i64 (D.I d - (1 : Int)))) (T.leaf [D.b true]) (T.ite (!within (D.I b) (0 : Int) (IntKind.wrap IntKind.i64 (D.I d - (1 : Int)))) (T.leaf [D.b true]) (T.leaf [D.b !within (D.I c) (-1000000 : Int) (1000000 : Int)])) := by kernel_rfl
theorem t51 (a b : D) : fnT C tab51 51 s51 [a, b] =
  T.need (yes ((1 : Int) ≤ D.I b ∧ D.I b ≤ (500 : Int) ∧ List.length (D.L a) < big ∧ (↑(List.length (D.L a)) : Int) = (↑(List.length (D.L a)) : Int) ∧ (0 : Int) ≤ (0 : Int) ∧ (0 : Int) ≤ (↑(List.length (D.L a)) : Int))) (T.ite (decide (firstFrom (fun j => !linkOk (D.I b) (D.L a) j) (Int.toNat (0 : Int)) (List.length (D.L a) - Int.toNat (0 : Int)) ≥ (0 : Int))) (T.leaf [D.i (firstFrom (fun j => !linkOk (D.I b) (D.L a) j) (Int.toNat (0 : Int)) (List.length (D.L a) - Int.toNat (0 : Int)))]) (T.leaf [D.i (-1 : Int)])) := by kernel_rfl
theorem t51_2 (a b c d : D) : roundT C tab51 51 (loopOf C.P 51 2) l51_2 [a, b, c, d] =
  T.ite (decide (D.I d < D.I c)) (T.need (decide ((0 : Int) ≤ D.I d ∧ D.I d < (↑(List.length (D.L a)) : Int))) (T.need (yes ((1 : Int) ≤ D.I b ∧ D.I b ≤ (500 : Int))) (T.ite (!linkP (D.I b) (D.I (List.getD (List.getD (D.L a) (Int.toNat (D.I d)) []) 0 default)) (D.I (List.getD (List.getD (D.L a) (Int.toNat (D.I d)) []) (0 + 1) default)) (D.I (List.getD (List.getD (D.L a) (Int.toNat (D.I d)) []) (0 + 1 + 1) default))) (T.leaf (Rd.out Ex.ret [D.i (D.I d)])) (T.leaf (Rd.again [D.l (D.L a), D.i (D.I b), D.i (D.I c), D.i (IntKind.wrap IntKind.i64 (D.I d + (1 : Int)))]))))) (T.leaf (Rd.out (Ex.exit 0) [])) := by kernel_rfl
theorem t63 (a b : D) : fnT C tab63 63 s63 [a, b] =
  T.need (yes ((1 : Int) ≤ D.I b ∧ D.I b ≤ (500 : Int) ∧ List.length (D.L a) < big)) (T.leaf [D.b (decide (firstFrom (fun j => !linkOk (D.I b) (D.L a) j) 0 (List.length (D.L a)) ≥ (0 : Int)))]) := by kernel_rfl
theorem t47 (a b : D) : fnT C tab47 47 s47 [a, b] =
  T.ite (within (D.I a) (1 : Int) (500 : Int)) (T.ite (decide ((↑(List.length (D.L b)) : Int) ≤ (5000 : Int))) (T.need (yes ((1 : Int) ≤ D.I a ∧ D.I a ≤ (500 : Int) ∧ List.length (D.L b) < big)) (T.leaf [D.b !!allFrom (linkOk (D.I a) (D.L b)) 0 (List.length (D.L b))])) (T.leaf [D.b false])) (T.leaf [D.b false]) := by kernel_rfl
theorem t18 (a b : D) : fnT C tab18 18 s18 [a, b] =
  T.ite (!within (D.I a) (1 : Int) (500 : Int)) (T.leaf [D.b false]) (T.ite (decide ((↑(List.length (D.L b)) : Int) > (5000 : Int))) (T.leaf [D.b false]) (T.need (yes ((1 : Int) ≤ D.I a ∧ D.I a ≤ (500 : Int) ∧ List.length (D.L b) < big ∧ (0 : Int) ≤ (0 : Int) ∧ (0 : Int) ≤ (↑(List.length (D.L b)) : Int))) (T.ite (allFrom (linkOk (D.I a) (D.L b)) (Int.toNat (0 : Int)) (List.length (D.L b) - Int.toNat (0 : Int))) (T.leaf [D.b true]) (T.leaf [D.b false])))) := by kernel_rfl
theorem t18_4 (a b c : D) : roundT C tab18 18 (loopOf C.P 18 4) l18_4 [a, b, c] =
  T.ite (decide (D.I c < (↑(List.length (D.L b)) : Int))) (T.need (decide ((0 : Int) ≤ D.I c ∧ D.I c < (↑(List.length (D.L b)) : Int))) (T.ite (!within (D.I (List.getD (List.getD (D.L b) (Int.toNat (D.I c)) []) 0 default)) (0 : Int) (IntKind.wrap IntKind.i64 (D.I a - (1 : Int)))) (T.leaf (Rd.out Ex.ret [D.b false])) (T.ite (!within (D.I (List.getD (List.getD (D.L b) (Int.toNat (D.I c)) []) (0 + 1) default)) (0 : Int) (IntKind.wrap IntKind.i64 (D.I a - (1 : Int)))) (T.leaf (Rd.out Ex.ret [D.b false])) (T.ite (!within (D.I (List.getD (List.getD (D.L b) (Int.toNat (D.I c)) []) (0 + 1 + 1) default)) (-1000000 : Int) (1000000 : Int)) (T.leaf (Rd.out Ex.ret [D.b false])) (T.leaf (Rd.again [D.i (D.I a), D.l (D.L b), D.i (IntKind.wrap IntKind.i64 (D.I c + (1 : Int)))])))))) (T.leaf (Rd.out (Ex.exit 0) [])) := by kernel_rfl
end Go.Proofs.Ytipbcpobnciccaa

namespace Go.Proofs.Ytipbcpobnciccaa
open Go.Lite

theorem ok48 (n : Nat) : FnOK C (n + 1) 48 (mkF s48 G48) := by
  refine fn_ofS hC (sp := sp48) (lp := lp48) (sw := sw48) trivial trivial (by kernel_rfl) [] (by kernel_rfl) rfl (fun k hk => by cases hk) fun ds rr h => ?_
  unfold G48 at h
  split at h
  · rename_i a b c
    refine (congrArg T.run (t48 a b c)).trans ?_
    rw [← h]
    simp only [run_ite, run_leaf, Lite.within]
    split <;> rename_i hc
    · have : b.I ≤ a.I := of_decide_eq_true hc
      simp [this]
    · have : ¬ b.I ≤ a.I := fun h => hc (decide_eq_true h)
      simp [this]
  · cases h
theorem ok54 (n : Nat) : FnOK C (n + 1) 54 (mkF s54 G54) := by
  refine fn_ofS hC (sp := sp54) (lp := lp54) (sw := sw54) trivial trivial (by kernel_rfl) [] (by kernel_rfl) rfl (fun k hk => by cases hk) fun ds rr h => ?_
  unfold G54 at h
  split at h
  · rename_i a b c
    refine (congrArg T.run (t54 a b c)).trans ?_
    rw [← h]
    simp only [run_ite, run_leaf, Lite.within]
    split <;> rename_i hc
    · have : b.I ≤ a.I := of_decide_eq_true hc
      simp [this]
    · have : ¬ b.I ≤ a.I := fun h => hc (decide_eq_true h)
      simp [this]
  · cases h
theorem ok74 (n : Nat) : FnOK C (n + 2) 74 (mkF s74 G74) := by
  refine fn_ofS hC (sp := sp74) (lp := lp74) (sw := sw74) ⟨ok48 n, trivial⟩ trivial (by kernel_rfl) [] (by kernel_rfl) rfl (fun k hk => by cases hk) fun ds rr h => ?_
  unfold G74 at h
  split at h
  · rename_i a b c d
    obtain ⟨hp, h⟩ := need_some h
    rw [yes_iff] at hp
    obtain ⟨h1, h2⟩ := hp
    refine (congrArg T.run (t74 a b c d)).trans ?_
    rw [← h]
    have w : IntKind.i64.wrap (d.I - 1) = d.I - 1 := wrap_id (by omega) (by omega)
    rw [w]
    unfold linkP
    refine go_not (fun c1 => by simp [c1]) fun c1 => go_not (fun c2 => by simp [c1, c2]) fun c2 => by simp [c1, c2]
  · cases h
theorem ok51_2 (n : Nat) : LoopSim C (n + 2) 51 (loopOf C.P 51 2) (mkL l51_2 G51_2) := by
  refine loop_ofK hC (sp := sp51) (lp := lp51) (sw := sw51) ⟨ok74 n, trivial⟩ trivial 0 [] (by kernel_rfl) rfl (fun k hk => by cases hk) (by kernel_rfl) (fun ds => ((ds.getD 2 default).I - (ds.getD 3 default).I).toNat) fun ds rr h => ?_
  unfold G51_2 at h
  split at h
  · rename_i l n m i
    obtain ⟨hp, h⟩ := need_some h
    rw [yes_iff] at hp
    obtain ⟨h1, h2, h3, h4, h5, h6⟩ := hp
    have hb := big_eq
    refine ⟨by rw [fuelC]; simp; omega, ?_⟩
    rw [show roundTK C (mkTab sp51 lp51 sw51) 51 (loopOf C.P 51 2) 0 l51_2 [l, n, m, i] = _ from t51_2 l n m i]
    obtain ⟨k, hk⟩ : ∃ k : Nat, i.I = k := ⟨i.I.toNat, by omega⟩
    simp only [hk, h4, Int.toNat_natCast] at h h6 ⊢
    refine rd_if (fun hlt => ?_) fun hge => rd_out (first_end h (by omega))
    have hkl : k < l.L.length := by omega
    obtain ⟨s1, s2⟩ := first_step h hkl
    refine rd_dec ⟨by omega, by omega⟩ (rd_yes ⟨h1, h2⟩ (rd_not (fun c => rd_out (s1 ?_)) fun c => ?_))
    · show (!linkOk n.I l.L k) = true
      unfold linkOk lkF lkT lkW ix
      rw [c]; rfl
    · rw [wrap_succ (by omega)]
      refine rd_again ((need_yes ⟨h1, h2, h3, rfl, by simp only [I_i]; omega, by simp only [I_i, L_l]; omega⟩).trans (s2 ?_)) (show ((l.L.length : Int) - ((k + 1 : Nat) : Int)).toNat < (m.I - i.I).toNat by omega)
      show (!linkOk n.I l.L k) = false
      unfold linkOk lkF lkT lkW ix
      rw [c]; rfl
  · cases h
theorem ok51 (n : Nat) : FnOK C (n + 3) 51 (mkF s51 G51) := by
  refine fn_ofS hC (sp := sp51) (lp := lp51) (sw := sw51) ⟨ok74 n, trivial⟩ trivial (by kernel_rfl) [2] (by kernel_rfl) (by kernel_rfl) (fun k hk L hL => by simp at hk; subst hk; cases hL; exact ok51_2 n) fun ds rr h => ?_
  unfold G51 at h
  split at h
  · rename_i l n
    obtain ⟨hp, h⟩ := need_some h
    rw [yes_iff] at hp
    obtain ⟨h1, h2, h3⟩ := hp
    refine (congrArg T.run (t51 l n)).trans ?_
    rw [← h]
    simp only [Int.toNat_zero, Nat.sub_zero]
    refine go_yes ⟨h1, h2, h3, by trivial, by omega, by omega⟩ (go_if (fun c => rfl) fun c => ?_)
    rw [firstFrom_neg (by omega)]
  · cases h
theorem ok63 (n : Nat) : FnOK C (n + 4) 63 (mkF s63 G63) := by
  refine fn_ofS hC (sp := sp63) (lp := lp63) (sw := sw63) ⟨ok51 n, ok74 (n + 1), trivial⟩ trivial (by kernel_rfl) [] (by kernel_rfl) rfl (fun k hk => by cases hk) fun ds rr h => ?_
  unfold G63 at h
  split at h
  · rename_i l n
    obtain ⟨hp, h⟩ := need_some h
    rw [yes_iff] at hp
    obtain ⟨h1, h2, h3⟩ := hp
    refine (congrArg T.run (t63 l n)).trans ?_
    rw [← h]
    refine go_yes ⟨h1, h2, h3⟩ ?_
    rw [firstFrom_all]
    simp only [Bool.not_not]
  · cases h
theorem ok47 (n : Nat) : FnOK C (n + 5) 47 (mkF s47 G47) := by
  refine fn_ofS hC (sp := sp47) (lp := lp47) (sw := sw47) ⟨ok48 (n + 3), ok63 n, ok74 (n + 2), trivial⟩ trivial (by kernel_rfl) [] (by kernel_rfl) rfl (fun k hk => by cases hk) fun ds rr h => ?_
  unfold G47 at h
  split at h
  · rename_i n l
    obtain ⟨hp, h⟩ := need_some h
    rw [yes_iff] at hp
    have h1 := hp
    refine (congrArg T.run (t47 n l)).trans ?_
    rw [← h]
    unfold netOk
    refine go_ite (fun c => go_if (fun c2 => ?_) fun c2 => ?_) fun c => by simp [c]
    · have c3 := Lite.within_iff.1 c
      refine go_yes ⟨c3.1, c3.2, h1⟩ ?_
      have c4 : l.L.length ≤ 5000 := by omega
      simp [c, c4]
    · have c4 : ¬ l.L.length ≤ 5000 := by omega
      simp [c4]
  · cases h
theorem ok18_4 (n : Nat) : LoopSim C (n + 1) 18 (loopOf C.P 18 4) (mkL l18_4 G18_4) := by
  refine loop_ofK hC (sp := sp18) (lp := lp18) (sw := sw18) ⟨ok54 n, trivial⟩ trivial 0 [] (by kernel_rfl) rfl (fun k hk => by cases hk) (by kernel_rfl) (fun ds => (((ds.getD 1 default).L.length : Int) - (ds.getD 2 default).I).toNat) fun ds rr h => ?_
  unfold G18_4 at h
  split at h
  · rename_i n l i
    obtain ⟨hp, h⟩ := need_some h
    rw [yes_iff] at hp
    obtain ⟨h1, h2, h3, h4, h5⟩ := hp
    have hb := big_eq
    refine ⟨by rw [fuelC]; simp; omega, ?_⟩
    rw [show roundTK C (mkTab sp18 lp18 sw18) 18 (loopOf C.P 18 4) 0 l18_4 [n, l, i] = _ from t18_4 n l i]
    obtain ⟨k, hk⟩ : ∃ k : Nat, i.I = k := ⟨i.I.toNat, by omega⟩
    have w : IntKind.i64.wrap (n.I - 1) = n.I - 1 := wrap_id (by omega) (by omega)
    simp only [hk, w, Int.toNat_natCast] at h h5 ⊢
    refine rd_if (fun hlt => ?_) fun hge => rd_out (all_end h (by omega))
    have hkl : k < l.L.length := by omega
    obtain ⟨s1, s2⟩ := all_step h hkl
    have e0 : linkOk n.I l.L k = linkP n.I ((l.L.getD k []).getD 0 default).I ((l.L.getD k []).getD 1 default).I ((l.L.getD k []).getD 2 default).I := rfl
    simp only [e0, linkP] at s1 s2
    refine rd_dec ⟨by omega, by omega⟩ (rd_not (fun c => rd_out (s1 (by rw [c]; rfl))) fun c1 => rd_not (fun c => rd_out (s1 (by rw [c, Bool.and_false]; rfl))) fun c2 => rd_not (fun c => rd_out (s1 (by rw [c, Bool.and_false]))) fun c3 => ?_)
    rw [wrap_succ (by omega)]
    exact rd_again ((need_yes ⟨h1, h2, h3, by simp only [I_i]; omega, by simp only [I_i, L_l]; omega⟩).trans (s2 (by rw [c1, c2, c3]; rfl))) (show ((l.L.length : Int) - ((k + 1 : Nat) : Int)).toNat < ((l.L.length : Int) - i.I).toNat by omega)
  · cases h
theorem ok18 (n : Nat) : FnOK C (n + 2) 18 (mkF s18 G18) := by
  refine fn_ofS hC (sp := sp18) (lp := lp18) (sw := sw18) ⟨ok54 n, trivial⟩ trivial (by kernel_rfl) [4] (by kernel_rfl) (by kernel_rfl) (fun k hk L hL => by simp at hk; subst hk; cases hL; exact ok18_4 n) fun ds rr h => ?_
  unfold G18 at h
  split at h
  · rename_i n l
    obtain ⟨hp, h⟩ := need_some h
    rw [yes_iff] at hp
    have h1 := hp
    refine (congrArg T.run (t18 n l)).trans ?_
    rw [← h]
    unfold netOk
    refine go_not (fun c => by simp [c]) fun c => go_if (fun c2 => ?_) fun c2 => ?_
    · have c4 : ¬ l.L.length ≤ 5000 := by omega
      simp [c4]
    · have c3 := Lite.within_iff.1 c
      have c4 : l.L.length ≤ 5000 := by omega
      refine go_yes ⟨c3.1, c3.2, h1, by omega, by omega⟩ ?_
      simp only [Int.toNat_zero, Nat.sub_zero, c, c4, decide_true, Bool.true_and]
      refine go_ite (fun c5 => by rw [c5]) fun c5 => by rw [c5]
  · cases h
end Go.Proofs.Ytipbcpobnciccaa
