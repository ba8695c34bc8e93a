/-
  What all proofs of this seat use.
  Shapes of arguments, results and loops. Written by program.
  What a search computes: roads, heaps, and what is yielded.
  Tables. Written by program.
  What the rounds and the functions come to. Written by program.
  Roads, heaps and what is yielded from a place: the functions compute what their words say.
  What is yielded from a place.
  Shapes of arguments, results and loops. Written by program.
  Searches: what they come to, whatever is yielded.
  Tables. Written by program.
  What the rounds and the functions come to. Written by program.
  Searches and arrivals compute what their words say.
-/
import Derived.Test.YtgmefblkmidglaaSymGo
import Derived.Test.YtgmefblkmidglaaCfg
namespace Go.Proofs.Ytgmefblkmidglaa
open Go.Lite
set_option maxRecDepth 100000

theorem hC : ∀ t Y, C.ty t = some Y → tyOf C.P t = some Y := by
  intro t Y h
  dsimp only [C, C0] at h ⊢
  exact h
theorem fuelC : C.fuel = 18446744073709551616 := by kernel_rfl
theorem big_eq : big = 4611686018427387904 := rfl
theorem max_if (a b : Int) : (if b > a then b else a) = max a b := by
  rw [Int.max_def]
  by_cases h : b > a
  · rw [if_pos h, if_pos (by omega)]
  · rw [if_neg h]
    by_cases h2 : a ≤ b
    · rw [if_pos h2]; omega
    · rw [if_neg h2]
theorem within_dec {x a b : Int} : Lite.within x a b = decide (a ≤ x ∧ x ≤ b) := by simp [Lite.within]
/-! ### Steps of loops -/
section
variable {α : Type} {p : Nat → Bool} {i len : Nat} {rt rf r : α}
theorem all_step (h : (T.ite (allFrom p i (len - i)) (.leaf rt) (.leaf rf)).run = some r) (hlt : i < len) : (p i = false → some rf = some r) ∧ (p i = true → (T.ite (allFrom p (i + 1) (len - (i + 1))) (.leaf rt) (.leaf rf)).run = some r) := by
  rw [show len - i = (len - (i + 1)) + 1 by omega] at h
  simp only [allFrom] at h
  refine ⟨fun hp => ?_, fun hp => ?_⟩
  · rw [hp, Bool.false_and] at h; exact h
  · rw [hp, Bool.true_and] at h; exact h
theorem all_end (h : (T.ite (allFrom p i (len - i)) (.leaf rt) (.leaf rf)).run = some r) (hge : ¬ i < len) : some rt = some r := by
  rw [show len - i = 0 by omega] at h
  exact h
end
section
variable {p : Nat → Bool} {i len : Nat} {ro r : Ex × List D}
theorem first_step (h : (T.ite (decide (firstFrom p i (len - i) ≥ 0)) (.leaf (.ret, [.i (firstFrom p i (len - i))])) (.leaf ro)).run = some r) (hlt : i < len) :
    (p i = true → some (Ex.ret, [D.i (i : Int)]) = some r) ∧ (p i = false → (T.ite (decide (firstFrom p (i + 1) (len - (i + 1)) ≥ 0)) (.leaf (.ret, [.i (firstFrom p (i + 1) (len - (i + 1)))])) (.leaf ro)).run = some r) := by
  rw [show len - i = (len - (i + 1)) + 1 by omega] at h
  simp only [firstFrom] at h
  refine ⟨fun hp => ?_, fun hp => ?_⟩
  · simp only [hp, if_true, run_ite, run_leaf] at h
    rw [if_pos (by simp)] at h
    exact h
  · simp only [hp, Bool.false_eq_true, if_false] at h
    exact h
theorem first_end (h : (T.ite (decide (firstFrom p i (len - i) ≥ 0)) (.leaf (.ret, [.i (firstFrom p i (len - i))])) (.leaf ro)).run = some r) (hge : ¬ i < len) : some ro = some r := by
  rw [show len - i = 0 by omega] at h
  simp only [firstFrom, run_ite, run_leaf] at h
  rw [if_neg (by simp)] at h
  exact h
end

/-! ### Rows of integers -/
noncomputable section
def rg (R : List (List D)) (j : Nat) : Int := ix (R.getD j []) 0
def rs (R : List (List D)) (j : Nat) (v : Int) : List (List D) := R.set j [.i v]
end
theorem len_rs (R : List (List D)) (j : Nat) (v : Int) : (rs R j v).length = R.length := by simp [rs]
theorem rg_rs {R : List (List D)} {j : Nat} (hj : j < R.length) (v : Int) (i : Nat) : rg (rs R j v) i = if i = j then v else rg R i := by
  unfold rg rs
  simp only [List.getD_eq_getElem?_getD, List.getElem?_set]
  by_cases e : i = j
  · subst e; simp [hj, ix, D.I]
  · rw [if_neg (fun h => e h.symm), if_neg e]
theorem rg_ge {R : List (List D)} {j : Nat} (hj : R.length ≤ j) : rg R j = 0 := by
  unfold rg
  rw [List.getD_eq_getElem?_getD, List.getElem?_eq_none hj]
  rfl
theorem rg_def (R : List (List D)) (j : Nat) : ((R.getD j []).getD 0 default).I = rg R j := rfl
theorem rs_def (R : List (List D)) (j : Nat) (v : Int) : R.set j [.i v] = rs R j v := rfl
theorem rg_rep {n j : Nat} {v : Int} (hj : j < n) : rg (List.replicate n [.i v]) j = v := by
  unfold rg
  rw [List.getD_eq_getElem?_getD, List.getElem?_replicate, if_pos hj]
  rfl
theorem upd2 (c : List D) (x y : D) : updC c [x, y] 0 0 (List.length [K.int .i64, K.int .i64]) = [x, y] := by simp [updC]
/-- The least of some numbers. -/
theorem least_of {P : Nat → Prop} (h : ∃ f, P f) : ∃ m, P m ∧ ∀ k, k < m → ¬ P k := by
  obtain ⟨f, hf⟩ := h
  induction f using Nat.strongRecOn with
  | _ f ih =>
    by_cases hs : ∃ k, k < f ∧ P k
    · obtain ⟨k, hk, hp⟩ := hs
      exact ih k hk hp
    · exact ⟨f, hf, fun k hk hp => hs ⟨k, hk, hp⟩⟩
end Go.Proofs.Ytgmefblkmidglaa

namespace Go.Proofs.Ytgmefblkmidglaa
open Go.Lite
def s45 : Sig := ⟨[.k (.int .i64), .k (.int .i64), .k (.int .i64)], [(.k .bool, [])]⟩
def s51 : Sig := ⟨[.agg [.k (.int .i64), .k (.int .i64), .k (.int .i64), .k (.ro [.int .i64, .int .i64])], .k (.int .i64)], [(.k (.int .i64), [])]⟩
def l51_2 : LSig := mkLS [1, 2, 8, 9, 10] [(31, [(1, .k (.int .i64)), (2, .ptr 0 4 0 0), (8, .k (.ro [.int .i64, .int .i64])), (9, .k (.int .i64)), (10, .k (.int .i64))], [.box [.k (.int .i64), .k (.int .i64), .k (.int .i64), .k (.ro [.int .i64, .int .i64])]])] [(.exit 0, [1], [(31, [(1, .k (.int .i64))], [])])]
def s123 : Sig := ⟨[.k (.ro [.int .i64, .int .i64])], [(.k (.int .i64), [])]⟩
def s124 : Sig := ⟨[.k (.ro [.int .i64, .int .i64]), .k (.int .i64), .k (.int .i64)], [(.k .bool, [])]⟩
def s126 : SigW := ⟨[.sl 0 2, .k (.int .i64), .k (.int .i64)], [.row [.int .i64, .int .i64]], [(.tup [], [.row [.int .i64, .int .i64]])]⟩
def s131 : SigW := ⟨[.ptr 0 1 0 0], [.box [.sl 1 2], .row [.int .i64, .int .i64]], [(.ifc 116 (.agg [.k (.int .i64), .k (.int .i64)]), [.box [.sl 1 2], .row [.int .i64, .int .i64]])]⟩
def s125 : SigW := ⟨[.ptr 0 1 0 0, .ifc 116 (.agg [.k (.int .i64), .k (.int .i64)])], [.box [.sl 1 2], .row [.int .i64, .int .i64]], [(.tup [], [.box [.sl 2 2], .none, .row [.int .i64, .int .i64]])]⟩
def s101 : SigW := ⟨[.ifc 159 (.ptr 0 1 0 0), .k (.int .i64)], [.box [.sl 1 2], .row [.int .i64, .int .i64]], [(.tup [], [.box [.sl 1 2], .row [.int .i64, .int .i64]])]⟩
def l101_0 : LSig := mkLS [0, 1] [(23, [(0, .ifc 159 (.ptr 0 1 0 0)), (1, .k (.int .i64))], [.box [.sl 1 2], .row [.int .i64, .int .i64]])] [(.exit 0, [], [(23, [], [.box [.sl 1 2], .row [.int .i64, .int .i64]])])]
def s129 : SigW := ⟨[.ifc 159 (.ptr 0 1 0 0), .k (.int .i64), .k (.int .i64)], [.box [.sl 1 2], .row [.int .i64, .int .i64]], [(.k .bool, [.box [.sl 1 2], .row [.int .i64, .int .i64]])]⟩
def l129_2 : LSig := mkLS [0, 1, 2, 7] [(48, [(0, .ifc 159 (.ptr 0 1 0 0)), (1, .k (.int .i64)), (2, .k (.int .i64)), (7, .k (.int .i64))], [.box [.sl 1 2], .row [.int .i64, .int .i64]])] [(.exit 0, [1, 7], [(48, [(1, .k (.int .i64)), (7, .k (.int .i64))], [.box [.sl 1 2], .row [.int .i64, .int .i64]])])]
def s93 : SigW := ⟨[.ifc 159 (.ptr 0 1 0 0), .ifc 116 (.agg [.k (.int .i64), .k (.int .i64)])], [.box [.sl 1 2], .row [.int .i64, .int .i64]], [(.tup [], [.box [.sl 2 2], .none, .row [.int .i64, .int .i64]])]⟩
def s128 : SigW := ⟨[.ifc 159 (.ptr 0 1 0 0)], [.box [.sl 1 2], .row [.int .i64, .int .i64]], [(.ifc 116 (.agg [.k (.int .i64), .k (.int .i64)]), [.box [.sl 1 2], .row [.int .i64, .int .i64]])]⟩
def s127 : SigW := ⟨[.ptr 0 1 0 0], [.box [.sl 1 2], .row [.int .i64, .int .i64]], [(.agg [.k (.int .i64), .k (.int .i64)], [.box [.sl 1 2], .row [.int .i64, .int .i64]])]⟩
def s74 : SigW := ⟨[.k (.int .i64), .k (.int .i64), .eptr [.k (.int .i64), .k (.ro [.int .i64, .int .i64, .int .i64, .ro [.int .i64, .int .i64]])]], [], [(.fn 75 [] [.eptr [.k (.int .i64), .k (.ro [.int .i64, .int .i64, .int .i64, .ro [.int .i64, .int .i64]])], .ptr 0 1 0 0, .ptr 1 1 0 0], [.box [.k (.int .i64)], .box [.k (.int .i64)]])]⟩
def s75 : SigI := ⟨[.yl, .eptr [.k (.int .i64), .k (.ro [.int .i64, .int .i64, .int .i64, .ro [.int .i64, .int .i64]])], .ptr 0 1 0 0, .ptr 1 1 0 0], [.box [.k (.int .i64)], .box [.k (.int .i64)]]⟩
def y75 : YS := mkY [.agg [.k (.int .i64), .k (.int .i64)]] [] false
def l75_1 : LSig := mkLS [0, 2, 3, 8, 9, 10] [(33, [(0, .yl), (2, .ptr 0 1 0 0), (3, .ptr 1 1 0 0), (8, .k (.ro [.int .i64, .int .i64, .int .i64, .ro [.int .i64, .int .i64]])), (9, .k (.int .i64)), (10, .k (.int .i64))], [.box [.k (.int .i64)], .box [.k (.int .i64)]])] [(.ret, [], [(33, [], [.box [.k (.int .i64)], .box [.k (.int .i64)]])]), (.exit 0, [], [(33, [], [.box [.k (.int .i64)], .box [.k (.int .i64)]])])]
end Go.Proofs.Ytgmefblkmidglaa

namespace Go.Proofs.Ytgmefblkmidglaa
open Go.Lite
noncomputable section
def G45 (ds : List D) : T (List D) := match ds with
  | [n, a, b] => .leaf [.b (within n.I a.I b.I)]
  | _ => .fail

/-! ### When a road can be entered -/
def entF (l : List (List D)) (c : Int) : Nat → Nat → Int → Int
  | _, 0, s => s
  | i, k + 1, s => entF l c (i + 1) k (if s + c > ix (l.getD i []) 0 ∧ s < ix (l.getD i []) 1 then ix (l.getD i []) 1 else s)
def okC (l : List (List D)) : Prop := l.length < big ∧ ∀ j, (-1099511627776 ≤ ix (l.getD j []) 0 ∧ ix (l.getD j []) 0 ≤ 1099511627776) ∧ (-1099511627776 ≤ ix (l.getD j []) 1 ∧ ix (l.getD j []) 1 ≤ 1099511627776)
def okS (s : Int) : Prop := -1152921504606846976 ≤ s ∧ s ≤ 1152921504606846976
def okT (c : Int) : Prop := -1099511627776 ≤ c ∧ c ≤ 1099511627776
def G51 (ds : List D) : T (List D) := match ds with
  | [_, _, c, l, s] => .need (yes (okT c.I ∧ okS s.I ∧ okC l.L)) (.leaf [.i (entF l.L c.I 0 l.L.length s.I)])
  | _ => .fail
def G51_2 (ds : List D) : T (Ex × List D) := match ds with
  | [s, l, m, i, _, _, c, _] => .need (yes (okT c.I ∧ okS s.I ∧ okC l.L ∧ m.I = l.L.length ∧ 0 ≤ i.I ∧ i.I ≤ l.L.length)) (.leaf (.exit 0, [.i (entF l.L c.I i.I.toNat (l.L.length - i.I.toNat) s.I)]))
  | _ => .fail

/-! ### Heaps -/
def atR (l : List (List D)) (i : Nat) : Int := ix (l.getD i []) 1
def row2 (c : List D) : List D := [.i (ix c 0), .i (ix c 1)]
def swapR (l : List (List D)) (i j : Nat) : List (List D) := (l.set i (row2 (l.getD j []))).set j (row2 (l.getD i []))
def upF : Nat → List (List D) → Nat → List (List D)
  | 0, l, _ => l
  | f + 1, l, j => if (j - 1) / 2 = j ∨ ¬ atR l j < atR l ((j - 1) / 2) then l else upF f (swapR l ((j - 1) / 2) j) ((j - 1) / 2)
def kidR (l : List (List D)) (m i : Nat) : Nat := if 2 * i + 2 < m ∧ atR l (2 * i + 2) < atR l (2 * i + 1) then 2 * i + 2 else 2 * i + 1
def downF : Nat → List (List D) → Nat → Nat → List (List D) × Nat
  | 0, l, _, i => (l, i)
  | f + 1, l, m, i => if 2 * i + 1 ≥ m ∨ ¬ atR l (kidR l m i) < atR l i then (l, i) else downF f (swapR l i (kidR l m i)) m (kidR l m i)
def G123 (ds : List D) : T (List D) := match ds with
  | [l] => .leaf [.i l.L.length]
  | _ => .fail
def G124 (ds : List D) : T (List D) := match ds with
  | [l, i, j] => .need (yes ((0 ≤ i.I ∧ i.I < l.L.length) ∧ 0 ≤ j.I ∧ j.I < l.L.length)) (.leaf [.b (decide (atR l.L i.I.toNat < atR l.L j.I.toNat))])
  | _ => .fail
def G126 (ds : List D) : T (List D) := match ds with
  | [n, i, j, l] => .need (yes ((0 ≤ i.I ∧ i.I < (n.I.toNat : Int)) ∧ (0 ≤ j.I ∧ j.I < (n.I.toNat : Int)) ∧ n.I.toNat ≤ l.L.length)) (.leaf [.l (swapR l.L i.I.toNat j.I.toNat)])
  | _ => .fail
def G131 (ds : List D) : T (List D) := match ds with
  | [n, l] => .need (yes (1 ≤ n.I.toNat ∧ n.I.toNat ≤ l.L.length ∧ n.I.toNat < 1099511627776)) (.leaf [.i (ix (l.L.getD (n.I.toNat - 1) []) 0), .i (ix (l.L.getD (n.I.toNat - 1) []) 1), .i ((n.I.toNat - 1 : Nat) : Int), .l l.L])
  | _ => .fail
def G125 (ds : List D) : T (List D) := match ds with
  | [v, t, n, l] => .need (yes (n.I.toNat ≤ l.L.length ∧ n.I.toNat < 1099511627776)) (.leaf [.i ((n.I.toNat + 1 : Nat) : Int), .l (l.L.take n.I.toNat ++ [[.i v.I, .i t.I]])])
  | _ => .fail
def G101 (ds : List D) : T (List D) := match ds with
  | [j, n, l] => .need (yes (0 ≤ j.I ∧ j.I < (n.I.toNat : Int) ∧ n.I.toNat ≤ l.L.length ∧ n.I.toNat < 2199023255552)) (.leaf [.i (n.I.toNat : Int), .l (upF (j.I.toNat + 1) l.L j.I.toNat)])
  | _ => .fail
def G101_0 (ds : List D) : T (Ex × List D) := match ds with
  | [j, n, l] => .need (yes (0 ≤ j.I ∧ j.I < (n.I.toNat : Int) ∧ n.I.toNat ≤ l.L.length ∧ n.I.toNat < 2199023255552)) (.leaf (.exit 0, [.i (n.I.toNat : Int), .l (upF (j.I.toNat + 1) l.L j.I.toNat)]))
  | _ => .fail
def G129 (ds : List D) : T (List D) := match ds with
  | [s, m, n, l] => .need (yes (0 ≤ s.I ∧ s.I ≤ m.I ∧ m.I ≤ (n.I.toNat : Int) ∧ n.I.toNat ≤ l.L.length ∧ n.I.toNat < 2199023255552))
      (.leaf [.b (decide (((downF (m.I.toNat + 1) l.L m.I.toNat s.I.toNat).2 : Int) > s.I)), .i (n.I.toNat : Int), .l (downF (m.I.toNat + 1) l.L m.I.toNat s.I.toNat).1])
  | _ => .fail
def G129_2 (ds : List D) : T (Ex × List D) := match ds with
  | [s, m, i, n, l] => .need (yes (0 ≤ i.I ∧ i.I ≤ m.I ∧ m.I ≤ (n.I.toNat : Int) ∧ n.I.toNat ≤ l.L.length ∧ n.I.toNat < 2199023255552))
      (.leaf (.exit 0, [.i s.I, .i ((downF (m.I.toNat + 1) l.L m.I.toNat i.I.toNat).2 : Int), .i (n.I.toNat : Int), .l (downF (m.I.toNat + 1) l.L m.I.toNat i.I.toNat).1]))
  | _ => .fail
def pushR (l : List (List D)) (n : Nat) (v t : Int) : List (List D) := upF (n + 1) (l.take n ++ [[.i v, .i t]]) n
def popR (l : List (List D)) (n : Nat) : List (List D) := (downF n (swapR l 0 (n - 1)) (n - 1) 0).1
def G93 (ds : List D) : T (List D) := match ds with
  | [v, t, n, l] => .need (yes (n.I.toNat ≤ l.L.length ∧ n.I.toNat < 1099511627776)) (.leaf [.i ((n.I.toNat + 1 : Nat) : Int), .l (pushR l.L n.I.toNat v.I t.I)])
  | _ => .fail
def G128 (ds : List D) : T (List D) := match ds with
  | [n, l] => .need (yes (1 ≤ n.I.toNat ∧ n.I.toNat ≤ l.L.length ∧ n.I.toNat < 1099511627776))
      (.leaf [.i (ix ((popR l.L n.I.toNat).getD (n.I.toNat - 1) []) 0), .i (ix ((popR l.L n.I.toNat).getD (n.I.toNat - 1) []) 1), .i ((n.I.toNat - 1 : Nat) : Int), .l (popR l.L n.I.toNat)])
  | _ => .fail
def G127 : List D → T (List D) := G128

/-! ### What is yielded from a place -/
def okR (r : List (List D)) : Prop := r.length < 1099511627776 ∧ ∀ i, i < r.length → okT (ix (r.getD i []) 2) ∧ okC (lx (r.getD i []) 3)
def entW (c : List D) (t : Int) : Int := entF (lx c 3) (ix c 2) 0 (lx c 3).length t
def nextF (r : List (List D)) (v t : Int) : Nat → Nat → List (List D)
  | _, 0 => []
  | i, k + 1 => if ix (r.getD i []) 0 = v then [.i (ix (r.getD i []) 1), .i (entW (r.getD i []) t + ix (r.getD i []) 2)] :: nextF r v t (i + 1) k else nextF r v t (i + 1) k
def G74 (ds : List D) : T (List D) := match ds with
  | [v, t, n, r] => .leaf [.i n.I, .l r.L, .i v.I, .i t.I]
  | _ => .fail
def G75 (ds : List D) : T (List (List D)) := match ds with
  | [_, r, v, t] => .need (yes (okR r.L ∧ okS t.I)) (.leaf (nextF r.L v.I t.I 0 r.L.length))
  | _ => .fail
def G75_1 (q : Nat) (ds : List D) : T (Ex × List D) := match ds with
  | [g, r, m, i, v, t] => .need (yes (okR r.L ∧ okS t.I ∧ m.I = r.L.length ∧ 0 ≤ i.I ∧ i.I ≤ r.L.length ∧ g.L.length ≤ q))
      (.ite (decide (q < g.L.length + (nextF r.L v.I t.I i.I.toNat (r.L.length - i.I.toNat)).length))
        (.leaf (.ret, [.l (g.L ++ (nextF r.L v.I t.I i.I.toNat (r.L.length - i.I.toNat)).take (q + 1 - g.L.length)), .i v.I, .i t.I]))
        (.leaf (.exit 0, [.l (g.L ++ nextF r.L v.I t.I i.I.toNat (r.L.length - i.I.toNat)), .i v.I, .i t.I])))
  | _ => .fail
end
end Go.Proofs.Ytgmefblkmidglaa

namespace Go.Proofs.Ytgmefblkmidglaa
open Go.Lite
noncomputable def sp45 : SpL := []
noncomputable def lp45 : LpL := []
noncomputable def sw45 : SwL := []
noncomputable def tab45 : Tab := mkTab sp45 lp45 sw45
noncomputable def sp51 : SpL := []
noncomputable def lp51 : LpL := [(2, mkL l51_2 G51_2)]
noncomputable def sw51 : SwL := []
noncomputable def tab51 : Tab := mkTab sp51 lp51 sw51
noncomputable def sp123 : SpL := []
noncomputable def lp123 : LpL := []
noncomputable def sw123 : SwL := []
noncomputable def tab123 : Tab := mkTab sp123 lp123 sw123
noncomputable def sp124 : SpL := []
noncomputable def lp124 : LpL := []
noncomputable def sw124 : SwL := []
noncomputable def tab124 : Tab := mkTab sp124 lp124 sw124
noncomputable def sp126 : SpL := []
noncomputable def lp126 : LpL := []
noncomputable def sw126 : SwL := []
noncomputable def tab126 : Tab := mkTab sp126 lp126 sw126
noncomputable def sp131 : SpL := []
noncomputable def lp131 : LpL := []
noncomputable def sw131 : SwL := []
noncomputable def tab131 : Tab := mkTab sp131 lp131 sw131
noncomputable def sp125 : SpL := []
noncomputable def lp125 : LpL := []
noncomputable def sw125 : SwL := []
noncomputable def tab125 : Tab := mkTab sp125 lp125 sw125
noncomputable def sp101 : SpL := [(124, mkF s124 G124)]
noncomputable def lp101 : LpL := [(0, mkLK 2 l101_0 G101_0)]
noncomputable def sw101 : SwL := [(126, mkFW s126 G126)]
noncomputable def tab101 : Tab := mkTab sp101 lp101 sw101
noncomputable def sp129 : SpL := [(124, mkF s124 G124)]
noncomputable def lp129 : LpL := [(2, mkLK 2 l129_2 G129_2)]
noncomputable def sw129 : SwL := [(126, mkFW s126 G126)]
noncomputable def tab129 : Tab := mkTab sp129 lp129 sw129
noncomputable def sp93 : SpL := [(123, mkF s123 G123)]
noncomputable def lp93 : LpL := []
noncomputable def sw93 : SwL := [(101, mkFW s101 G101), (125, mkFW s125 G125)]
noncomputable def tab93 : Tab := mkTab sp93 lp93 sw93
noncomputable def sp128 : SpL := [(123, mkF s123 G123)]
noncomputable def lp128 : LpL := []
noncomputable def sw128 : SwL := [(129, mkFW s129 G129), (126, mkFW s126 G126), (131, mkFW s131 G131)]
noncomputable def tab128 : Tab := mkTab sp128 lp128 sw128
noncomputable def sp127 : SpL := []
noncomputable def lp127 : LpL := []
noncomputable def sw127 : SwL := [(128, mkFW s128 G128)]
noncomputable def tab127 : Tab := mkTab sp127 lp127 sw127
noncomputable def sp74 : SpL := []
noncomputable def lp74 : LpL := []
noncomputable def sw74 : SwL := []
noncomputable def tab74 : Tab := mkTab sp74 lp74 sw74
noncomputable def sp75 : SpL := [(51, mkF s51 G51)]
noncomputable def lp75 (q : Nat) : LpL := [(1, mkLY 2 l75_1 (G75_1 q))]
noncomputable def sw75 : SwL := []
noncomputable def tab75 (q : Nat) : Tab := mkTabY sp75 (lp75 q) sw75 y75 q
end Go.Proofs.Ytgmefblkmidglaa

namespace Go.Proofs.Ytgmefblkmidglaa
open Go.Lite
set_option linter.unusedVariables false
set_option maxRecDepth 100000
theorem t45 (a b c : D) : fnT C tab45 45 s45 [a, b, c] =
  T.ite (decide (D.I a ≥ D.I b)) (T.leaf [D.b (decide (D.I a ≤ D.I c))]) (T.leaf [D.b false]) := by kernel_rfl
theorem t51 (a b c d e : D) : fnT C tab51 51 s51 [a, b, c, d, e] =
  T.need (yes (okT (D.I c) ∧ okS (D.I e) ∧ okC (D.L d) ∧ (↑(List.length (D.L d)) : Int) = (↑(List.length (D.L d)) : Int) ∧ (0 : Int) ≤ (0 : Int) ∧ (0 : Int) ≤ (↑(List.length (D.L d)) : Int))) (T.leaf [D.i (entF (D.L d) (D.I c) (Int.toNat (0 : Int)) (List.length (D.L d) - Int.toNat (0 : Int)) (D.I e))]) := by kernel_rfl
theorem t51_2 (a b c d e f g h : D) : roundT C tab51 51 (loopOf C.P 51 2) l51_2 [a, b, c, d, e, f, g, h] =
  T.ite (decide (D.I d < D.I c)) (T.need (decide ((0 : Int) ≤ D.I d ∧ D.I d < (↑(List.length (D.L b)) : Int))) (T.ite (decide (IntKind.wrap IntKind.i64 (D.I a + D.I g) > D.I (List.getD (List.getD (D.L b) (Int.toNat (D.I d)) []) 0 default))) (T.ite (decide (D.I a < D.I (List.getD (List.getD (D.L b) (Int.toNat (D.I d)) []) (0 + 1) default))) (T.leaf (Rd.again [D.i (D.I (List.getD (List.getD (D.L b) (Int.toNat (D.I d)) []) (0 + 1) default)), D.l (D.L b), D.i (D.I c), D.i (IntKind.wrap IntKind.i64 (D.I d + (1 : Int))), D.i (D.I e), D.i (D.I f), D.i (D.I g), D.l (D.L h)])) (T.leaf (Rd.again [D.i (D.I a), D.l (D.L b), D.i (D.I c), D.i (IntKind.wrap IntKind.i64 (D.I d + (1 : Int))), D.i (D.I e), D.i (D.I f), D.i (D.I g), D.l (D.L h)]))) (T.leaf (Rd.again [D.i (D.I a), D.l (D.L b), D.i (D.I c), D.i (IntKind.wrap IntKind.i64 (D.I d + (1 : Int))), D.i (D.I e), D.i (D.I f), D.i (D.I g), D.l (D.L h)])))) (T.leaf (Rd.out (Ex.exit 0) [D.i (D.I a)])) := by kernel_rfl
theorem t123 (a : D) : fnT C tab123 123 s123 [a] =
  T.leaf [D.i (↑(List.length (D.L a)) : Int)] := by kernel_rfl
theorem t124 (a b c : D) : fnT C tab124 124 s124 [a, b, c] =
  T.need (decide ((0 : Int) ≤ D.I b ∧ D.I b < (↑(List.length (D.L a)) : Int))) (T.need (decide ((0 : Int) ≤ D.I c ∧ D.I c < (↑(List.length (D.L a)) : Int))) (T.leaf [D.b (decide (D.I (List.getD (List.getD (D.L a) (Int.toNat (D.I b)) []) (0 + 1) default) < D.I (List.getD (List.getD (D.L a) (Int.toNat (D.I c)) []) (0 + 1) default)))])) := by kernel_rfl
theorem t126 (a b c d : D) : fnTW C tab126 126 s126 [a, b, c, d] =
  T.need (decide ((0 : Int) ≤ D.I c ∧ D.I c < (↑(Int.toNat (D.I a)) : Int))) (T.need (decide (Int.toNat (D.I c) < List.length (D.L d))) (T.need (decide ((0 : Int) ≤ D.I b ∧ D.I b < (↑(Int.toNat (D.I a)) : Int))) (T.need (decide (Int.toNat (D.I b) < List.length (D.L d))) (T.need (decide ((0 : Int) ≤ D.I b ∧ D.I b < (↑(Int.toNat (D.I a)) : Int))) (T.need (decide (Int.toNat (D.I b) < List.length (D.L d))) (T.need (decide ((0 : Int) ≤ D.I c ∧ D.I c < (↑(Int.toNat (D.I a)) : Int))) (T.need (decide (Int.toNat (D.I c) < List.length (List.set (D.L d) (Int.toNat (D.I b)) (updC (List.getD (D.L d) (Int.toNat (D.I b)) []) [D.i (D.I (List.getD (List.getD (D.L d) (Int.toNat (D.I c)) []) 0 default)), D.i (D.I (List.getD (List.getD (D.L d) (Int.toNat (D.I c)) []) (0 + 1) default))] 0 0 (List.length [K.int IntKind.i64, K.int IntKind.i64]))))) (T.leaf [D.l (List.set (List.set (D.L d) (Int.toNat (D.I b)) (updC (List.getD (D.L d) (Int.toNat (D.I b)) []) [D.i (D.I (List.getD (List.getD (D.L d) (Int.toNat (D.I c)) []) 0 default)), D.i (D.I (List.getD (List.getD (D.L d) (Int.toNat (D.I c)) []) (0 + 1) default))] 0 0 (List.length [K.int IntKind.i64, K.int IntKind.i64]))) (Int.toNat (D.I c)) (updC (List.getD (List.set (D.L d) (Int.toNat (D.I b)) (updC (List.getD (D.L d) (Int.toNat (D.I b)) []) [D.i (D.I (List.getD (List.getD (D.L d) (Int.toNat (D.I c)) []) 0 default)), D.i (D.I (List.getD (List.getD (D.L d) (Int.toNat (D.I c)) []) (0 + 1) default))] 0 0 (List.length [K.int IntKind.i64, K.int IntKind.i64]))) (Int.toNat (D.I c)) []) [D.i (D.I (List.getD (List.getD (D.L d) (Int.toNat (D.I b)) []) 0 default)), D.i (D.I (List.getD (List.getD (D.L d) (Int.toNat (D.I b)) []) (0 + 1) default))] 0 0 (List.length [K.int IntKind.i64, K.int IntKind.i64])))])))))))) := by kernel_rfl
theorem t131 (a b : D) : fnTW C tab131 131 s131 [a, b] =
  T.need (decide ((0 : Int) ≤ IntKind.wrap IntKind.i64 ((↑(Int.toNat (D.I a)) : Int) - (1 : Int)) ∧ IntKind.wrap IntKind.i64 ((↑(Int.toNat (D.I a)) : Int) - (1 : Int)) < (↑(Int.toNat (D.I a)) : Int))) (T.need (decide (Int.toNat (IntKind.wrap IntKind.i64 ((↑(Int.toNat (D.I a)) : Int) - (1 : Int))) < List.length (D.L b))) (T.need (decide ((0 : Int) ≤ IntKind.wrap IntKind.i64 ((↑(Int.toNat (D.I a)) : Int) - (1 : Int)) ∧ IntKind.wrap IntKind.i64 ((↑(Int.toNat (D.I a)) : Int) - (1 : Int)) ≤ (↑(Int.toNat (D.I a)) : Int))) (T.leaf [D.i (D.I (List.getD (List.getD (D.L b) (Int.toNat (IntKind.wrap IntKind.i64 ((↑(Int.toNat (D.I a)) : Int) - (1 : Int)))) []) 0 default)), D.i (D.I (List.getD (List.getD (D.L b) (Int.toNat (IntKind.wrap IntKind.i64 ((↑(Int.toNat (D.I a)) : Int) - (1 : Int)))) []) (0 + 1) default)), D.i (↑(Int.toNat (IntKind.wrap IntKind.i64 ((↑(Int.toNat (D.I a)) : Int) - (1 : Int)))) : Int), D.l (D.L b)]))) := by kernel_rfl
theorem t125 (a b c d : D) : fnTW C tab125 125 s125 [a, b, c, d] =
  T.need true (T.ite false T.fail (T.need (decide (Int.toNat (D.I c) ≤ List.length (D.L d) ∧ Int.toNat (D.I c) + List.length (List.take (List.length [[D.i (D.I a), D.i (D.I b)]]) [[D.i (D.I a), D.i (D.I b)]]) ≤ 2 ^ 62 ∧ (Int.toNat (D.I c) + List.length (List.take (List.length [[D.i (D.I a), D.i (D.I b)]]) [[D.i (D.I a), D.i (D.I b)]])) * Try.prog.types[116].bytes ≤ 2 ^ 47)) (T.leaf [D.i (↑(Int.toNat (D.I c) + List.length (List.take (List.length [[D.i (D.I a), D.i (D.I b)]]) [[D.i (D.I a), D.i (D.I b)]])) : Int), D.l (List.take (Int.toNat (D.I c)) (D.L d) ++ List.take (List.length [[D.i (D.I a), D.i (D.I b)]]) [[D.i (D.I a), D.i (D.I b)]])]))) := by kernel_rfl
theorem t101 (a b c : D) : fnTW C tab101 101 s101 [a, b, c] =
  T.need (yes ((0 : Int) ≤ D.I a ∧ D.I a < (↑(Int.toNat (↑(Int.toNat (D.I b)) : Int)) : Int) ∧ Int.toNat (↑(Int.toNat (D.I b)) : Int) ≤ List.length (D.L c) ∧ Int.toNat (↑(Int.toNat (D.I b)) : Int) < 2199023255552)) (T.leaf [D.i (↑(Int.toNat (↑(Int.toNat (↑(Int.toNat (D.I b)) : Int)) : Int)) : Int), D.l (upF (Int.toNat (D.I a) + 1) (D.L c) (Int.toNat (D.I a)))]) := by kernel_rfl
theorem t101_0 (a b c : D) : roundTK C tab101 101 (loopOf C.P 101 0) 2 l101_0 [a, b, c] =
  T.need true (T.ite (IntKind.wrap IntKind.i64 (Int.tdiv (IntKind.wrap IntKind.i64 (D.I a - (1 : Int))) (2 : Int)) == D.I a) (T.leaf (Rd.out (Ex.exit 0) [D.i (↑(Int.toNat (D.I b)) : Int), D.l (D.L c)])) (T.need (decide (Int.toNat (D.I b) ≤ List.length (D.L c))) (T.need (yes (((0 : Int) ≤ D.I a ∧ D.I a < (↑(List.length (List.take (Int.toNat (D.I b)) (D.L c))) : Int)) ∧ (0 : Int) ≤ IntKind.wrap IntKind.i64 (Int.tdiv (IntKind.wrap IntKind.i64 (D.I a - (1 : Int))) (2 : Int)) ∧ IntKind.wrap IntKind.i64 (Int.tdiv (IntKind.wrap IntKind.i64 (D.I a - (1 : Int))) (2 : Int)) < (↑(List.length (List.take (Int.toNat (D.I b)) (D.L c))) : Int))) (T.ite (!decide (atR (List.take (Int.toNat (D.I b)) (D.L c)) (Int.toNat (D.I a)) < atR (List.take (Int.toNat (D.I b)) (D.L c)) (Int.toNat (IntKind.wrap IntKind.i64 (Int.tdiv (IntKind.wrap IntKind.i64 (D.I a - (1 : Int))) (2 : Int)))))) (T.leaf (Rd.out (Ex.exit 0) [D.i (↑(Int.toNat (D.I b)) : Int), D.l (D.L c)])) (T.need (yes (((0 : Int) ≤ IntKind.wrap IntKind.i64 (Int.tdiv (IntKind.wrap IntKind.i64 (D.I a - (1 : Int))) (2 : Int)) ∧ IntKind.wrap IntKind.i64 (Int.tdiv (IntKind.wrap IntKind.i64 (D.I a - (1 : Int))) (2 : Int)) < (↑(Int.toNat (↑(Int.toNat (D.I b)) : Int)) : Int)) ∧ ((0 : Int) ≤ D.I a ∧ D.I a < (↑(Int.toNat (↑(Int.toNat (D.I b)) : Int)) : Int)) ∧ Int.toNat (↑(Int.toNat (D.I b)) : Int) ≤ List.length (D.L c))) (T.leaf (Rd.again [D.i (IntKind.wrap IntKind.i64 (Int.tdiv (IntKind.wrap IntKind.i64 (D.I a - (1 : Int))) (2 : Int))), D.i (↑(Int.toNat (D.I b)) : Int), D.l (swapR (D.L c) (Int.toNat (IntKind.wrap IntKind.i64 (Int.tdiv (IntKind.wrap IntKind.i64 (D.I a - (1 : Int))) (2 : Int)))) (Int.toNat (D.I a)))]))))))) := by kernel_rfl
theorem t129 (a b c d : D) : fnTW C tab129 129 s129 [a, b, c, d] =
  T.need (yes ((0 : Int) ≤ D.I a ∧ D.I a ≤ D.I b ∧ D.I b ≤ (↑(Int.toNat (↑(Int.toNat (D.I c)) : Int)) : Int) ∧ Int.toNat (↑(Int.toNat (D.I c)) : Int) ≤ List.length (D.L d) ∧ Int.toNat (↑(Int.toNat (D.I c)) : Int) < 2199023255552)) (T.leaf [D.b (decide ((↑(downF (Int.toNat (D.I b) + 1) (D.L d) (Int.toNat (D.I b)) (Int.toNat (D.I a))).snd : Int) > D.I a)), D.i (↑(Int.toNat (↑(Int.toNat (↑(Int.toNat (D.I c)) : Int)) : Int)) : Int), D.l (downF (Int.toNat (D.I b) + 1) (D.L d) (Int.toNat (D.I b)) (Int.toNat (D.I a))).fst]) := by kernel_rfl
theorem t129_2 (a b c d e : D) : roundTK C tab129 129 (loopOf C.P 129 2) 2 l129_2 [a, b, c, d, e] =
  T.ite (decide (IntKind.wrap IntKind.i64 (IntKind.wrap IntKind.i64 ((2 : Int) * D.I c) + (1 : Int)) ≥ D.I b)) (T.leaf (Rd.out (Ex.exit 0) [D.i (D.I a), D.i (D.I c), D.i (↑(Int.toNat (D.I d)) : Int), D.l (D.L e)])) (T.ite (decide (IntKind.wrap IntKind.i64 (IntKind.wrap IntKind.i64 ((2 : Int) * D.I c) + (1 : Int)) < (0 : Int))) (T.leaf (Rd.out (Ex.exit 0) [D.i (D.I a), D.i (D.I c), D.i (↑(Int.toNat (D.I d)) : Int), D.l (D.L e)])) (T.ite (decide (IntKind.wrap IntKind.i64 (IntKind.wrap IntKind.i64 (IntKind.wrap IntKind.i64 ((2 : Int) * D.I c) + (1 : Int)) + (1 : Int)) < D.I b)) (T.need (decide (Int.toNat (D.I d) ≤ List.length (D.L e))) (T.need (yes (((0 : Int) ≤ IntKind.wrap IntKind.i64 (IntKind.wrap IntKind.i64 (IntKind.wrap IntKind.i64 ((2 : Int) * D.I c) + (1 : Int)) + (1 : Int)) ∧ IntKind.wrap IntKind.i64 (IntKind.wrap IntKind.i64 (IntKind.wrap IntKind.i64 ((2 : Int) * D.I c) + (1 : Int)) + (1 : Int)) < (↑(List.length (List.take (Int.toNat (D.I d)) (D.L e))) : Int)) ∧ (0 : Int) ≤ IntKind.wrap IntKind.i64 (IntKind.wrap IntKind.i64 ((2 : Int) * D.I c) + (1 : Int)) ∧ IntKind.wrap IntKind.i64 (IntKind.wrap IntKind.i64 ((2 : Int) * D.I c) + (1 : Int)) < (↑(List.length (List.take (Int.toNat (D.I d)) (D.L e))) : Int))) (T.ite (decide (atR (List.take (Int.toNat (D.I d)) (D.L e)) (Int.toNat (IntKind.wrap IntKind.i64 (IntKind.wrap IntKind.i64 (IntKind.wrap IntKind.i64 ((2 : Int) * D.I c) + (1 : Int)) + (1 : Int)))) < atR (List.take (Int.toNat (D.I d)) (D.L e)) (Int.toNat (IntKind.wrap IntKind.i64 (IntKind.wrap IntKind.i64 ((2 : Int) * D.I c) + (1 : Int)))))) (T.need (decide (Int.toNat (D.I d) ≤ List.length (D.L e))) (T.need (yes (((0 : Int) ≤ IntKind.wrap IntKind.i64 (IntKind.wrap IntKind.i64 (IntKind.wrap IntKind.i64 ((2 : Int) * D.I c) + (1 : Int)) + (1 : Int)) ∧ IntKind.wrap IntKind.i64 (IntKind.wrap IntKind.i64 (IntKind.wrap IntKind.i64 ((2 : Int) * D.I c) + (1 : Int)) + (1 : Int)) < (↑(List.length (List.take (Int.toNat (D.I d)) (D.L e))) : Int)) ∧ (0 : Int) ≤ D.I c ∧ D.I c < (↑(List.length (List.take (Int.toNat (D.I d)) (D.L e))) : Int))) (T.ite (!decide (atR (List.take (Int.toNat (D.I d)) (D.L e)) (Int.toNat (IntKind.wrap IntKind.i64 (IntKind.wrap IntKind.i64 (IntKind.wrap IntKind.i64 ((2 : Int) * D.I c) + (1 : Int)) + (1 : Int)))) < atR (List.take (Int.toNat (D.I d)) (D.L e)) (Int.toNat (D.I c)))) (T.leaf (Rd.out (Ex.exit 0) [D.i (D.I a), D.i (D.I c), D.i (↑(Int.toNat (D.I d)) : Int), D.l (D.L e)])) (T.need (yes (((0 : Int) ≤ D.I c ∧ D.I c < (↑(Int.toNat (↑(Int.toNat (D.I d)) : Int)) : Int)) ∧ ((0 : Int) ≤ IntKind.wrap IntKind.i64 (IntKind.wrap IntKind.i64 (IntKind.wrap IntKind.i64 ((2 : Int) * D.I c) + (1 : Int)) + (1 : Int)) ∧ IntKind.wrap IntKind.i64 (IntKind.wrap IntKind.i64 (IntKind.wrap IntKind.i64 ((2 : Int) * D.I c) + (1 : Int)) + (1 : Int)) < (↑(Int.toNat (↑(Int.toNat (D.I d)) : Int)) : Int)) ∧ Int.toNat (↑(Int.toNat (D.I d)) : Int) ≤ List.length (D.L e))) (T.leaf (Rd.again [D.i (D.I a), D.i (D.I b), D.i (IntKind.wrap IntKind.i64 (IntKind.wrap IntKind.i64 (IntKind.wrap IntKind.i64 ((2 : Int) * D.I c) + (1 : Int)) + (1 : Int))), D.i (↑(Int.toNat (D.I d)) : Int), D.l (swapR (D.L e) (Int.toNat (D.I c)) (Int.toNat (IntKind.wrap IntKind.i64 (IntKind.wrap IntKind.i64 (IntKind.wrap IntKind.i64 ((2 : Int) * D.I c) + (1 : Int)) + (1 : Int)))))])))))) (T.need (decide (Int.toNat (D.I d) ≤ List.length (D.L e))) (T.need (yes (((0 : Int) ≤ IntKind.wrap IntKind.i64 (IntKind.wrap IntKind.i64 ((2 : Int) * D.I c) + (1 : Int)) ∧ IntKind.wrap IntKind.i64 (IntKind.wrap IntKind.i64 ((2 : Int) * D.I c) + (1 : Int)) < (↑(List.length (List.take (Int.toNat (D.I d)) (D.L e))) : Int)) ∧ (0 : Int) ≤ D.I c ∧ D.I c < (↑(List.length (List.take (Int.toNat (D.I d)) (D.L e))) : Int))) (T.ite (!decide (atR (List.take (Int.toNat (D.I d)) (D.L e)) (Int.toNat (IntKind.wrap IntKind.i64 (IntKind.wrap IntKind.i64 ((2 : Int) * D.I c) + (1 : Int)))) < atR (List.take (Int.toNat (D.I d)) (D.L e)) (Int.toNat (D.I c)))) (T.leaf (Rd.out (Ex.exit 0) [D.i (D.I a), D.i (D.I c), D.i (↑(Int.toNat (D.I d)) : Int), D.l (D.L e)])) (T.need (yes (((0 : Int) ≤ D.I c ∧ D.I c < (↑(Int.toNat (↑(Int.toNat (D.I d)) : Int)) : Int)) ∧ ((0 : Int) ≤ IntKind.wrap IntKind.i64 (IntKind.wrap IntKind.i64 ((2 : Int) * D.I c) + (1 : Int)) ∧ IntKind.wrap IntKind.i64 (IntKind.wrap IntKind.i64 ((2 : Int) * D.I c) + (1 : Int)) < (↑(Int.toNat (↑(Int.toNat (D.I d)) : Int)) : Int)) ∧ Int.toNat (↑(Int.toNat (D.I d)) : Int) ≤ List.length (D.L e))) (T.leaf (Rd.again [D.i (D.I a), D.i (D.I b), D.i (IntKind.wrap IntKind.i64 (IntKind.wrap IntKind.i64 ((2 : Int) * D.I c) + (1 : Int))), D.i (↑(Int.toNat (D.I d)) : Int), D.l (swapR (D.L e) (Int.toNat (D.I c)) (Int.toNat (IntKind.wrap IntKind.i64 (IntKind.wrap IntKind.i64 ((2 : Int) * D.I c) + (1 : Int)))))]))))))))) (T.need (decide (Int.toNat (D.I d) ≤ List.length (D.L e))) (T.need (yes (((0 : Int) ≤ IntKind.wrap IntKind.i64 (IntKind.wrap IntKind.i64 ((2 : Int) * D.I c) + (1 : Int)) ∧ IntKind.wrap IntKind.i64 (IntKind.wrap IntKind.i64 ((2 : Int) * D.I c) + (1 : Int)) < (↑(List.length (List.take (Int.toNat (D.I d)) (D.L e))) : Int)) ∧ (0 : Int) ≤ D.I c ∧ D.I c < (↑(List.length (List.take (Int.toNat (D.I d)) (D.L e))) : Int))) (T.ite (!decide (atR (List.take (Int.toNat (D.I d)) (D.L e)) (Int.toNat (IntKind.wrap IntKind.i64 (IntKind.wrap IntKind.i64 ((2 : Int) * D.I c) + (1 : Int)))) < atR (List.take (Int.toNat (D.I d)) (D.L e)) (Int.toNat (D.I c)))) (T.leaf (Rd.out (Ex.exit 0) [D.i (D.I a), D.i (D.I c), D.i (↑(Int.toNat (D.I d)) : Int), D.l (D.L e)])) (T.need (yes (((0 : Int) ≤ D.I c ∧ D.I c < (↑(Int.toNat (↑(Int.toNat (D.I d)) : Int)) : Int)) ∧ ((0 : Int) ≤ IntKind.wrap IntKind.i64 (IntKind.wrap IntKind.i64 ((2 : Int) * D.I c) + (1 : Int)) ∧ IntKind.wrap IntKind.i64 (IntKind.wrap IntKind.i64 ((2 : Int) * D.I c) + (1 : Int)) < (↑(Int.toNat (↑(Int.toNat (D.I d)) : Int)) : Int)) ∧ Int.toNat (↑(Int.toNat (D.I d)) : Int) ≤ List.length (D.L e))) (T.leaf (Rd.again [D.i (D.I a), D.i (D.I b), D.i (IntKind.wrap IntKind.i64 (IntKind.wrap IntKind.i64 ((2 : Int) * D.I c) + (1 : Int))), D.i (↑(Int.toNat (D.I d)) : Int), D.l (swapR (D.L e) (Int.toNat (D.I c)) (Int.toNat (IntKind.wrap IntKind.i64 (IntKind.wrap IntKind.i64 ((2 : Int) * D.I c) + (1 : Int)))))])))))))) := by kernel_rfl
theorem t93 (a b c d : D) : fnTW C tab93 93 s93 [a, b, c, d] =
  T.need (yes (Int.toNat (↑(Int.toNat (D.I c)) : Int) ≤ List.length (D.L d) ∧ Int.toNat (↑(Int.toNat (D.I c)) : Int) < 1099511627776)) (T.need (decide (Int.toNat (↑(Int.toNat (↑(Int.toNat (D.I c)) : Int) + 1) : Int) ≤ List.length (List.take (Int.toNat (↑(Int.toNat (D.I c)) : Int)) (D.L d) ++ [[D.i (D.I a), D.i (D.I b)]]))) (T.need (yes ((0 : Int) ≤ IntKind.wrap IntKind.i64 ((↑(List.length (List.take (Int.toNat (↑(Int.toNat (↑(Int.toNat (D.I c)) : Int) + 1) : Int)) (List.take (Int.toNat (↑(Int.toNat (D.I c)) : Int)) (D.L d) ++ [[D.i (D.I a), D.i (D.I b)]]))) : Int) - (1 : Int)) ∧ IntKind.wrap IntKind.i64 ((↑(List.length (List.take (Int.toNat (↑(Int.toNat (↑(Int.toNat (D.I c)) : Int) + 1) : Int)) (List.take (Int.toNat (↑(Int.toNat (D.I c)) : Int)) (D.L d) ++ [[D.i (D.I a), D.i (D.I b)]]))) : Int) - (1 : Int)) < (↑(Int.toNat (↑(Int.toNat (↑(Int.toNat (↑(Int.toNat (D.I c)) : Int) + 1) : Int)) : Int)) : Int) ∧ Int.toNat (↑(Int.toNat (↑(Int.toNat (↑(Int.toNat (D.I c)) : Int) + 1) : Int)) : Int) ≤ List.length (List.take (Int.toNat (↑(Int.toNat (D.I c)) : Int)) (D.L d) ++ [[D.i (D.I a), D.i (D.I b)]]) ∧ Int.toNat (↑(Int.toNat (↑(Int.toNat (↑(Int.toNat (D.I c)) : Int) + 1) : Int)) : Int) < 2199023255552)) (T.leaf [D.i (↑(Int.toNat (↑(Int.toNat (↑(Int.toNat (↑(Int.toNat (↑(Int.toNat (D.I c)) : Int) + 1) : Int)) : Int)) : Int)) : Int), D.l (upF (Int.toNat (IntKind.wrap IntKind.i64 ((↑(List.length (List.take (Int.toNat (↑(Int.toNat (↑(Int.toNat (D.I c)) : Int) + 1) : Int)) (List.take (Int.toNat (↑(Int.toNat (D.I c)) : Int)) (D.L d) ++ [[D.i (D.I a), D.i (D.I b)]]))) : Int) - (1 : Int))) + 1) (List.take (Int.toNat (↑(Int.toNat (D.I c)) : Int)) (D.L d) ++ [[D.i (D.I a), D.i (D.I b)]]) (Int.toNat (IntKind.wrap IntKind.i64 ((↑(List.length (List.take (Int.toNat (↑(Int.toNat (↑(Int.toNat (D.I c)) : Int) + 1) : Int)) (List.take (Int.toNat (↑(Int.toNat (D.I c)) : Int)) (D.L d) ++ [[D.i (D.I a), D.i (D.I b)]]))) : Int) - (1 : Int)))))]))) := by kernel_rfl
theorem t128 (a b : D) : fnTW C tab128 128 s128 [a, b] =
  T.need (decide (Int.toNat (D.I a) ≤ List.length (D.L b))) (T.need (yes (((0 : Int) ≤ (0 : Int) ∧ (0 : Int) < (↑(Int.toNat (↑(Int.toNat (D.I a)) : Int)) : Int)) ∧ ((0 : Int) ≤ IntKind.wrap IntKind.i64 ((↑(List.length (List.take (Int.toNat (D.I a)) (D.L b))) : Int) - (1 : Int)) ∧ IntKind.wrap IntKind.i64 ((↑(List.length (List.take (Int.toNat (D.I a)) (D.L b))) : Int) - (1 : Int)) < (↑(Int.toNat (↑(Int.toNat (D.I a)) : Int)) : Int)) ∧ Int.toNat (↑(Int.toNat (D.I a)) : Int) ≤ List.length (D.L b))) (T.need (yes ((0 : Int) ≤ (0 : Int) ∧ (0 : Int) ≤ IntKind.wrap IntKind.i64 ((↑(List.length (List.take (Int.toNat (D.I a)) (D.L b))) : Int) - (1 : Int)) ∧ IntKind.wrap IntKind.i64 ((↑(List.length (List.take (Int.toNat (D.I a)) (D.L b))) : Int) - (1 : Int)) ≤ (↑(Int.toNat (↑(Int.toNat (D.I a)) : Int)) : Int) ∧ Int.toNat (↑(Int.toNat (D.I a)) : Int) ≤ List.length (swapR (D.L b) (Int.toNat (0 : Int)) (Int.toNat (IntKind.wrap IntKind.i64 ((↑(List.length (List.take (Int.toNat (D.I a)) (D.L b))) : Int) - (1 : Int))))) ∧ Int.toNat (↑(Int.toNat (D.I a)) : Int) < 2199023255552)) (T.need (yes (1 ≤ Int.toNat (↑(Int.toNat (↑(Int.toNat (↑(Int.toNat (D.I a)) : Int)) : Int)) : Int) ∧ Int.toNat (↑(Int.toNat (↑(Int.toNat (↑(Int.toNat (D.I a)) : Int)) : Int)) : Int) ≤ List.length (downF (Int.toNat (IntKind.wrap IntKind.i64 ((↑(List.length (List.take (Int.toNat (D.I a)) (D.L b))) : Int) - (1 : Int))) + 1) (swapR (D.L b) (Int.toNat (0 : Int)) (Int.toNat (IntKind.wrap IntKind.i64 ((↑(List.length (List.take (Int.toNat (D.I a)) (D.L b))) : Int) - (1 : Int))))) (Int.toNat (IntKind.wrap IntKind.i64 ((↑(List.length (List.take (Int.toNat (D.I a)) (D.L b))) : Int) - (1 : Int)))) (Int.toNat (0 : Int))).fst ∧ Int.toNat (↑(Int.toNat (↑(Int.toNat (↑(Int.toNat (D.I a)) : Int)) : Int)) : Int) < 1099511627776)) (T.leaf [D.i (ix (List.getD (downF (Int.toNat (IntKind.wrap IntKind.i64 ((↑(List.length (List.take (Int.toNat (D.I a)) (D.L b))) : Int) - (1 : Int))) + 1) (swapR (D.L b) (Int.toNat (0 : Int)) (Int.toNat (IntKind.wrap IntKind.i64 ((↑(List.length (List.take (Int.toNat (D.I a)) (D.L b))) : Int) - (1 : Int))))) (Int.toNat (IntKind.wrap IntKind.i64 ((↑(List.length (List.take (Int.toNat (D.I a)) (D.L b))) : Int) - (1 : Int)))) (Int.toNat (0 : Int))).fst (Int.toNat (↑(Int.toNat (↑(Int.toNat (↑(Int.toNat (D.I a)) : Int)) : Int)) : Int) - 1) []) 0), D.i (ix (List.getD (downF (Int.toNat (IntKind.wrap IntKind.i64 ((↑(List.length (List.take (Int.toNat (D.I a)) (D.L b))) : Int) - (1 : Int))) + 1) (swapR (D.L b) (Int.toNat (0 : Int)) (Int.toNat (IntKind.wrap IntKind.i64 ((↑(List.length (List.take (Int.toNat (D.I a)) (D.L b))) : Int) - (1 : Int))))) (Int.toNat (IntKind.wrap IntKind.i64 ((↑(List.length (List.take (Int.toNat (D.I a)) (D.L b))) : Int) - (1 : Int)))) (Int.toNat (0 : Int))).fst (Int.toNat (↑(Int.toNat (↑(Int.toNat (↑(Int.toNat (D.I a)) : Int)) : Int)) : Int) - 1) []) 1), D.i (↑(Int.toNat (↑(Int.toNat (↑(Int.toNat (↑(Int.toNat (↑(Int.toNat (D.I a)) : Int)) : Int)) : Int) - 1) : Int)) : Int), D.l (downF (Int.toNat (IntKind.wrap IntKind.i64 ((↑(List.length (List.take (Int.toNat (D.I a)) (D.L b))) : Int) - (1 : Int))) + 1) (swapR (D.L b) (Int.toNat (0 : Int)) (Int.toNat (IntKind.wrap IntKind.i64 ((↑(List.length (List.take (Int.toNat (D.I a)) (D.L b))) : Int) - (1 : Int))))) (Int.toNat (IntKind.wrap IntKind.i64 ((↑(List.length (List.take (Int.toNat (D.I a)) (D.L b))) : Int) - (1 : Int)))) (Int.toNat (0 : Int))).fst])))) := by kernel_rfl
theorem t127 (a b : D) : fnTW C tab127 127 s127 [a, b] =
  T.need (yes (1 ≤ Int.toNat (↑(Int.toNat (D.I a)) : Int) ∧ Int.toNat (↑(Int.toNat (D.I a)) : Int) ≤ List.length (D.L b) ∧ Int.toNat (↑(Int.toNat (D.I a)) : Int) < 1099511627776)) (T.leaf [D.i (ix (List.getD (popR (D.L b) (Int.toNat (↑(Int.toNat (D.I a)) : Int))) (Int.toNat (↑(Int.toNat (D.I a)) : Int) - 1) []) 0), D.i (ix (List.getD (popR (D.L b) (Int.toNat (↑(Int.toNat (D.I a)) : Int))) (Int.toNat (↑(Int.toNat (D.I a)) : Int) - 1) []) 1), D.i (↑(Int.toNat (↑(Int.toNat (↑(Int.toNat (D.I a)) : Int) - 1) : Int)) : Int), D.l (popR (D.L b) (Int.toNat (↑(Int.toNat (D.I a)) : Int)))]) := by kernel_rfl
theorem t74 (a b c d : D) : fnTW C tab74 74 s74 [a, b, c, d] =
  T.leaf [D.i (D.I c), D.l (D.L d), D.i (D.I a), D.i (D.I b)] := by kernel_rfl
theorem t75 (q : Nat) (a b c d : D) : fnTY C (tab75 q) 75 s75 [a, b, c, d] =
  T.need (yes (okR (D.L b) ∧ okS (D.I d) ∧ (↑(List.length (D.L b)) : Int) = (↑(List.length (D.L b)) : Int) ∧ (0 : Int) ≤ (0 : Int) ∧ (0 : Int) ≤ (↑(List.length (D.L b)) : Int) ∧ List.length ([] : List (List D)) ≤ q)) (T.ite (decide (q < List.length ([] : List (List D)) + List.length (nextF (D.L b) (D.I c) (D.I d) (Int.toNat (0 : Int)) (List.length (D.L b) - Int.toNat (0 : Int))))) (T.leaf ([] ++ List.take (q + 1 - List.length ([] : List (List D))) (nextF (D.L b) (D.I c) (D.I d) (Int.toNat (0 : Int)) (List.length (D.L b) - Int.toNat (0 : Int))))) (T.leaf ([] ++ nextF (D.L b) (D.I c) (D.I d) (Int.toNat (0 : Int)) (List.length (D.L b) - Int.toNat (0 : Int))))) := by kernel_rfl
theorem t75_1 (q : Nat) (a b c d e f : D) : roundTY C (tab75 q) 75 (loopOf C.P 75 1) 2 l75_1 [a, b, c, d, e, f] =
  T.ite (decide (D.I d < D.I c)) (T.need (decide ((0 : Int) ≤ D.I d ∧ D.I d < (↑(List.length (D.L b)) : Int))) (T.ite (D.I (List.getD (List.getD (D.L b) (Int.toNat (D.I d)) []) 0 default) == D.I e) (T.need (yes (okT (D.I (List.getD (List.getD (D.L b) (Int.toNat (D.I d)) []) (0 + 1 + 1) default)) ∧ okS (D.I f) ∧ okC (D.L (List.getD (List.getD (D.L b) (Int.toNat (D.I d)) []) (0 + 1 + 1 + 1) default)))) (T.ite (!!List.length (D.L a) == (tab75 q).q) (T.leaf (Rd.out Ex.ret [D.l (D.L a ++ [[D.i (D.I (List.getD (List.getD (D.L b) (Int.toNat (D.I d)) []) (0 + 1) default))] ++ ([D.i (IntKind.wrap IntKind.i64 (entF (D.L (List.getD (List.getD (D.L b) (Int.toNat (D.I d)) []) (0 + 1 + 1 + 1) default)) (D.I (List.getD (List.getD (D.L b) (Int.toNat (D.I d)) []) (0 + 1 + 1) default)) 0 (List.length (D.L (List.getD (List.getD (D.L b) (Int.toNat (D.I d)) []) (0 + 1 + 1 + 1) default))) (D.I f) + D.I (List.getD (List.getD (D.L b) (Int.toNat (D.I d)) []) (0 + 1 + 1) default)))] ++ []) ++ [] ++ []]), D.i (D.I e), D.i (D.I f)])) (T.leaf (Rd.again [D.l (D.L a ++ [[D.i (D.I (List.getD (List.getD (D.L b) (Int.toNat (D.I d)) []) (0 + 1) default))] ++ ([D.i (IntKind.wrap IntKind.i64 (entF (D.L (List.getD (List.getD (D.L b) (Int.toNat (D.I d)) []) (0 + 1 + 1 + 1) default)) (D.I (List.getD (List.getD (D.L b) (Int.toNat (D.I d)) []) (0 + 1 + 1) default)) 0 (List.length (D.L (List.getD (List.getD (D.L b) (Int.toNat (D.I d)) []) (0 + 1 + 1 + 1) default))) (D.I f) + D.I (List.getD (List.getD (D.L b) (Int.toNat (D.I d)) []) (0 + 1 + 1) default)))] ++ []) ++ [] ++ []]), D.l (D.L b), D.i (D.I c), D.i (IntKind.wrap IntKind.i64 (D.I d + (1 : Int))), D.i (D.I e), D.i (D.I f)])))) (T.leaf (Rd.again [D.l (D.L a), D.l (D.L b), D.i (D.I c), D.i (IntKind.wrap IntKind.i64 (D.I d + (1 : Int))), D.i (D.I e), D.i (D.I f)])))) (T.leaf (Rd.out (Ex.exit 0) [D.l (D.L a), D.i (D.I e), D.i (D.I f)])) := by kernel_rfl
end Go.Proofs.Ytgmefblkmidglaa

namespace Go.Proofs.Ytgmefblkmidglaa
open Go.Lite
set_option maxRecDepth 100000
theorem ok45 (n : Nat) : FnOK C (n + 1) 45 (mkF s45 G45) := by
  refine fn_ofS hC (sp := sp45) (lp := lp45) (sw := sw45) trivial trivial (by kernel_rfl) [] (by kernel_rfl) rfl (fun k hk => by cases hk) fun ds r h => ?_
  unfold G45 at h
  split at h
  · rename_i a b c
    cases h
    refine (congrArg T.run (t45 a b c)).trans (go_if (fun h1 => ?_) fun h1 => ?_)
    · rw [within_dec]
      simp only [run_leaf, show (b.I ≤ a.I ∧ a.I ≤ c.I) ↔ a.I ≤ c.I from ⟨fun h => h.2, fun h => ⟨h1, h⟩⟩]
    · rw [within_dec, decide_eq_false (fun h => h1 h.1)]
      rfl
  · cases h

/-! ### When a road can be entered -/
theorem entF_step {l : List (List D)} {c s : Int} {j : Nat} (hj : j < l.length) : entF l c j (l.length - j) s = entF l c (j + 1) (l.length - (j + 1)) (if s + c > ix (l.getD j []) 0 ∧ s < ix (l.getD j []) 1 then ix (l.getD j []) 1 else s) := by
  rw [show l.length - j = (l.length - (j + 1)) + 1 by omega]
  rfl
theorem okS_of {l : List (List D)} {j : Nat} (h : okC l) : okS (ix (l.getD j []) 1) := by
  have := h.2 j
  unfold okS
  omega
theorem ok51_2 (n : Nat) : LoopSim C n 51 (loopOf C.P 51 2) (mkL l51_2 G51_2) := by
  refine loop_ofK hC (sp := sp51) (lp := lp51) (sw := sw51) trivial trivial 0 [] (by kernel_rfl) rfl (fun k hk => by cases hk) (by kernel_rfl) (fun ds => ((ds.getD 2 default).I - (ds.getD 3 default).I).toNat) fun ds rr h => ?_
  unfold G51_2 at h
  split at h
  · rename_i s l m i a b c l2
    obtain ⟨hp, h⟩ := need_some h
    rw [yes_iff] at hp
    obtain ⟨hc, hs, hl, hm, hi0, hi1⟩ := hp
    have hb := big_eq
    have hll := hl.1
    refine ⟨by rw [fuelC]; simp; omega, ?_⟩
    rw [show roundTK C (mkTab sp51 lp51 sw51) 51 (loopOf C.P 51 2) 0 l51_2 [s, l, m, i, a, b, c, l2] = _ from t51_2 s l m i a b c l2]
    obtain ⟨j, hj⟩ : ∃ j : Nat, i.I = j := ⟨i.I.toNat, by omega⟩
    simp only [hj, hm, Int.toNat_natCast, ix_def] at h hi0 hi1 ⊢
    have hcj := hl.2 j
    unfold okS at hs
    unfold okT at hc
    refine rd_if (fun hlt => ?_) fun hge => ?_
    · rw [entF_step (by omega)] at h
      rw [wrap_id (by omega) (by omega), wrap_succ (by omega)]
      refine rd_dec (by omega) (rd_if (fun c1 => rd_if (fun c2 => ?_) fun c2 => ?_) fun c1 => ?_)
      · rw [if_pos ⟨c1, c2⟩] at h
        refine rd_again ((need_yes ⟨hc, okS_of hl, hl, by simp only [I_i, L_l], by simp only [I_i]; omega, by simp only [I_i, L_l]; omega⟩).trans ?_) ?_
        · exact h
        · show ((l.L.length : Int) - ((j + 1 : Nat) : Int)).toNat < (m.I - i.I).toNat
          rw [hj, hm]; omega
      · rw [if_neg (fun h => c2 h.2)] at h
        refine rd_again ((need_yes ⟨hc, hs, hl, by simp only [I_i, L_l], by simp only [I_i]; omega, by simp only [I_i, L_l]; omega⟩).trans ?_) ?_
        · exact h
        · show ((l.L.length : Int) - ((j + 1 : Nat) : Int)).toNat < (m.I - i.I).toNat
          rw [hj, hm]; omega
      · rw [if_neg (fun h => c1 h.1)] at h
        refine rd_again ((need_yes ⟨hc, hs, hl, by simp only [I_i, L_l], by simp only [I_i]; omega, by simp only [I_i, L_l]; omega⟩).trans ?_) ?_
        · exact h
        · show ((l.L.length : Int) - ((j + 1 : Nat) : Int)).toNat < (m.I - i.I).toNat
          rw [hj, hm]; omega
    · rw [show l.L.length - j = 0 by omega] at h
      exact rd_out h
  · cases h
theorem ok51 (n : Nat) : FnOK C (n + 1) 51 (mkF s51 G51) := by
  refine fn_ofS hC (sp := sp51) (lp := lp51) (sw := sw51) trivial trivial (by kernel_rfl) [2] (by kernel_rfl) (by kernel_rfl) (fun k hk L hL => by
    simp at hk; subst hk; cases hL; exact ok51_2 n) fun ds r h => ?_
  unfold G51 at h
  split at h
  · rename_i a b c l s
    obtain ⟨hp, h⟩ := need_some h
    rw [yes_iff] at hp
    obtain ⟨hc, hs, hl⟩ := hp
    refine (congrArg T.run (t51 a b c l s)).trans (go_yes ⟨hc, hs, hl, rfl, by omega, by omega⟩ ?_)
    exact h
  · cases h

/-! ### Heaps -/
theorem ok123 (n : Nat) : FnOK C (n + 1) 123 (mkF s123 G123) := by
  refine fn_ofS hC (sp := sp123) (lp := lp123) (sw := sw123) trivial trivial (by kernel_rfl) [] (by kernel_rfl) rfl (fun k hk => by cases hk) fun ds r h => ?_
  unfold G123 at h
  split at h
  · rename_i l
    exact (congrArg T.run (t123 l)).trans h
  · cases h
theorem ok124 (n : Nat) : FnOK C (n + 1) 124 (mkF s124 G124) := by
  refine fn_ofS hC (sp := sp124) (lp := lp124) (sw := sw124) trivial trivial (by kernel_rfl) [] (by kernel_rfl) rfl (fun k hk => by cases hk) fun ds r h => ?_
  unfold G124 at h
  split at h
  · rename_i l i j
    obtain ⟨hp, h⟩ := need_some h
    rw [yes_iff] at hp
    exact (congrArg T.run (t124 l i j)).trans (go_dec hp.1 (go_dec hp.2 h))
  · cases h
theorem len_swap (l : List (List D)) (i j : Nat) : (swapR l i j).length = l.length := by simp [swapR]
theorem getD_set {l : List (List D)} {i k : Nat} {c : List D} (hi : i < l.length) : (l.set i c).getD k [] = if k = i then c else l.getD k [] := by
  simp only [List.getD_eq_getElem?_getD, List.getElem?_set]
  by_cases e : k = i
  · subst e; simp [hi]
  · rw [if_neg (fun h => e h.symm), if_neg e]
theorem ok126 (n : Nat) : FnOKW C (n + 1) 126 (mkFW s126 G126) := by
  refine fn_ofW hC (sp := sp126) (lp := lp126) (sw := sw126) trivial trivial (by kernel_rfl) [] (by kernel_rfl) rfl (fun k hk => by cases hk) fun ds r h => ?_
  unfold G126 at h
  split at h
  · rename_i m i j l
    obtain ⟨hp, h⟩ := need_some h
    rw [yes_iff] at hp
    obtain ⟨h1, h2, h3⟩ := hp
    refine (congrArg T.run (t126 m i j l)).trans (go_dec h2 (go_dec (by omega) (go_dec h1 (go_dec (by omega) (go_dec h1 (go_dec (by omega) (go_dec h2 (go_dec (by rw [List.length_set]; omega) ?_))))))))
    simp only [upd2]
    exact h
  · cases h
theorem ok131 (n : Nat) : FnOKW C (n + 1) 131 (mkFW s131 G131) := by
  refine fn_ofW hC (sp := sp131) (lp := lp131) (sw := sw131) trivial trivial (by kernel_rfl) [] (by kernel_rfl) rfl (fun k hk => by cases hk) fun ds r h => ?_
  unfold G131 at h
  split at h
  · rename_i m l
    obtain ⟨hp, h⟩ := need_some h
    rw [yes_iff] at hp
    obtain ⟨h1, h2, h3⟩ := hp
    refine (congrArg T.run (t131 m l)).trans ?_
    rw [wrap_id (by omega) (by omega), show ((m.I.toNat : Int) - 1) = ((m.I.toNat - 1 : Nat) : Int) by omega]
    simp only [Int.toNat_natCast]
    exact go_need (by simp; omega) (go_need (by simp; omega) (go_need (by simp; omega) h))
  · cases h
theorem ok125 (n : Nat) : FnOKW C (n + 1) 125 (mkFW s125 G125) := by
  have hby : Try.prog.types[116].bytes = 16 := by kernel_rfl
  refine fn_ofW hC (sp := sp125) (lp := lp125) (sw := sw125) trivial trivial (by kernel_rfl) [] (by kernel_rfl) rfl (fun k hk => by cases hk) fun ds r h => ?_
  unfold G125 at h
  split at h
  · rename_i v t m l
    obtain ⟨hp, h⟩ := need_some h
    rw [yes_iff] at hp
    obtain ⟨h1, h2⟩ := hp
    refine (congrArg T.run (t125 v t m l)).trans (go_need rfl (go_false rfl (go_dec ⟨h1, by simp; omega, by rw [hby]; simp; omega⟩ h)))
  · cases h
theorem ok74 (n : Nat) : FnOKW C (n + 1) 74 (mkFW s74 G74) := by
  refine fn_ofW hC (sp := sp74) (lp := lp74) (sw := sw74) trivial trivial (by kernel_rfl) [] (by kernel_rfl) rfl (fun k hk => by cases hk) fun ds r h => ?_
  unfold G74 at h
  split at h
  · rename_i v t m l
    exact (congrArg T.run (t74 v t m l)).trans h
  · cases h
theorem upF_more : ∀ (j f : Nat) (l : List (List D)), j + 1 ≤ f → upF f l j = upF (j + 1) l j := by
  intro j
  induction j using Nat.strongRecOn with
  | _ j ih =>
    intro f l hf
    obtain ⟨f, rfl⟩ : ∃ g, f = g + 1 := ⟨f - 1, by omega⟩
    simp only [upF]
    split
    · rfl
    · rename_i hc
      rw [not_or] at hc
      have hlt : (j - 1) / 2 < j := by omega
      rw [ih _ hlt f _ (by omega), ih _ hlt j _ (by omega)]
theorem half_eq {j : Nat} (hj : j < 2199023255552) : IntKind.wrap .i64 (Int.tdiv (IntKind.wrap .i64 ((j : Int) - 1)) 2) = (((j - 1) / 2 : Nat) : Int) := by
  rw [wrap_id (x := (j : Int) - 1) (by omega) (by omega)]
  cases j with
  | zero => rfl
  | succ j =>
    rw [show ((j + 1 : Nat) : Int) - 1 = (j : Int) by omega, show j + 1 - 1 = j by omega, Int.tdiv_eq_ediv_of_nonneg (by omega)]
    rw [wrap_id (by omega) (by omega)]
    omega
theorem at_take {l : List (List D)} {n i : Nat} (hi : i < n) : atR (l.take n) i = atR l i := by
  unfold atR
  simp only [List.getD_eq_getElem?_getD, List.getElem?_take, if_pos hi]
theorem ok101_0 (n : Nat) : LoopSimK C (n + 1) 2 101 (loopOf C.P 101 0) (mkLK 2 l101_0 G101_0) := by
  refine loop_ofK hC (sp := sp101) (lp := lp101) (sw := sw101) ⟨ok124 n, trivial⟩ ⟨ok126 n, trivial⟩ 2 [] (by kernel_rfl) rfl (fun k hk => by cases hk) (by kernel_rfl) (fun ds => (ds.getD 0 default).I.toNat) fun ds rr h => ?_
  unfold G101_0 at h
  split at h
  · rename_i i m l
    obtain ⟨hp, h⟩ := need_some h
    rw [yes_iff] at hp
    obtain ⟨h0, h1, h2, h3⟩ := hp
    refine ⟨by rw [fuelC]; simp; omega, ?_⟩
    rw [show roundTK C (mkTab sp101 lp101 sw101) 101 (loopOf C.P 101 0) 2 l101_0 [i, m, l] = _ from t101_0 i m l]
    obtain ⟨j, hj⟩ : ∃ j : Nat, i.I = j := ⟨i.I.toNat, by omega⟩
    rw [hj, half_eq (by omega)]
    simp only [hj, Int.toNat_natCast] at h h1 ⊢
    have ht : (l.L.take m.I.toNat).length = m.I.toNat := by rw [List.length_take]; omega
    have hl1 : j < m.I.toNat := by omega
    have hl2 : (j - 1) / 2 < m.I.toNat := by omega
    simp only [at_take hl1, at_take hl2]
    simp only [upF] at h
    refine rd_need rfl (rd_ite (fun c1 => ?_) fun c1 => ?_)
    · rw [beq_iff_eq] at c1
      rw [if_pos (.inl (by omega))] at h
      exact rd_out h
    · rw [beq_eq_false_iff_ne] at c1
      refine rd_dec h2 (rd_yes (by rw [ht]; omega) (rd_not (fun c2 => ?_) fun c2 => ?_))
      · have c2 := of_decide_eq_false c2
        rw [if_pos (.inr c2)] at h
        exact rd_out h
      · have c2 := of_decide_eq_true c2
        rw [if_neg (by rw [not_or]; exact ⟨by omega, fun h => h c2⟩)] at h
        refine rd_yes ⟨by omega, by omega, h2⟩ (rd_again ((need_yes ⟨by simp only [I_i]; omega, by simp only [I_i, Int.toNat_natCast]; omega, by simp only [I_i, L_l, Int.toNat_natCast, len_swap]; omega, by simp only [I_i, Int.toNat_natCast]; omega⟩).trans ?_) ?_)
        · simp only [I_i, L_l, Int.toNat_natCast]
          rw [← upF_more _ j _ (by omega)]
          exact h
        · simp only [List.getD_cons_zero, I_i, hj]; omega
  · cases h
theorem ok101 (n : Nat) : FnOKW C (n + 2) 101 (mkFW s101 G101) := by
  refine fn_ofW hC (sp := sp101) (lp := lp101) (sw := sw101) ⟨ok124 n, trivial⟩ ⟨ok126 n, trivial⟩ (by kernel_rfl) [0] (by kernel_rfl) (by kernel_rfl) (fun k hk L hL => by
    simp at hk; subst hk; cases hL; exact ok101_0 n) fun ds r h => ?_
  unfold G101 at h
  split at h
  · rename_i j m l
    obtain ⟨hp, h⟩ := need_some h
    rw [yes_iff] at hp
    refine (congrArg T.run (t101 j m l)).trans ?_
    simp only [Int.toNat_natCast]
    exact go_yes hp h
  · cases h
theorem downF_more (m : Nat) : ∀ (d i f : Nat) (l : List (List D)), m - i ≤ d → d + 1 ≤ f → downF f l m i = downF (d + 1) l m i
  | 0, i, f, l, hd, hf => by
    obtain ⟨f, rfl⟩ : ∃ g, f = g + 1 := ⟨f - 1, by omega⟩
    simp only [downF]
    rw [if_pos (.inl (by omega)), if_pos (.inl (by omega))]
  | d + 1, i, f, l, hd, hf => by
    obtain ⟨f, rfl⟩ : ∃ g, f = g + 1 := ⟨f - 1, by omega⟩
    show downF (f + 1) l m i = downF ((d + 1) + 1) l m i
    rw [downF, downF]
    split
    · rfl
    · rename_i hc
      rw [not_or] at hc
      have : kidR l m i = 2 * i + 1 ∨ kidR l m i = 2 * i + 2 := by unfold kidR; split <;> simp
      exact downF_more m d _ f _ (by omega) (by omega)
theorem kid_lt {l : List (List D)} {m i : Nat} (h : 2 * i + 1 < m) : kidR l m i < m ∧ i < kidR l m i := by
  unfold kidR
  split
  · rename_i hc; omega
  · omega
theorem ok129_2 (n : Nat) : LoopSimK C (n + 1) 2 129 (loopOf C.P 129 2) (mkLK 2 l129_2 G129_2) := by
  refine loop_ofK hC (sp := sp129) (lp := lp129) (sw := sw129) ⟨ok124 n, trivial⟩ ⟨ok126 n, trivial⟩ 2 [] (by kernel_rfl) rfl (fun k hk => by cases hk) (by kernel_rfl) (fun ds => ((ds.getD 1 default).I - (ds.getD 2 default).I).toNat) fun ds rr h => ?_
  unfold G129_2 at h
  split at h
  · rename_i s m i n' l
    obtain ⟨hp, h⟩ := need_some h
    rw [yes_iff] at hp
    obtain ⟨h0, h1, h2, h3, h4⟩ := hp
    refine ⟨by rw [fuelC]; simp; omega, ?_⟩
    rw [show roundTK C (mkTab sp129 lp129 sw129) 129 (loopOf C.P 129 2) 2 l129_2 [s, m, i, n', l] = _ from t129_2 s m i n' l]
    obtain ⟨j, hj⟩ : ∃ j : Nat, i.I = j := ⟨i.I.toNat, by omega⟩
    obtain ⟨k, hk⟩ : ∃ k : Nat, m.I = k := ⟨m.I.toNat, by omega⟩
    have e1 : IntKind.wrap .i64 (2 * (j : Int)) = ((2 * j : Nat) : Int) := by rw [wrap_id (by omega) (by omega)]; omega
    have e2 : IntKind.wrap .i64 (((2 * j : Nat) : Int) + 1) = ((2 * j + 1 : Nat) : Int) := wrap_succ (by omega)
    have e3 : IntKind.wrap .i64 (((2 * j + 1 : Nat) : Int) + 1) = ((2 * j + 2 : Nat) : Int) := wrap_succ (by omega)
    simp only [hj, hk, Int.toNat_natCast] at h h1 h2
    simp only [hj, hk, e1, e2, e3, Int.toNat_natCast]
    have ht : (l.L.take n'.I.toNat).length = n'.I.toNat := by rw [List.length_take]; omega
    rw [downF] at h
    refine rd_if (fun c1 => ?_) fun c1 => rd_if (fun c2 => absurd c2 (by omega)) fun _ => ?_
    · rw [if_pos (.inl (by omega))] at h
      exact rd_out h
    · have hstep : ∀ q : Nat, kidR l.L k j = q → q < k → j < q → (atR l.L q < atR l.L j → (G129_2 [D.i s.I, D.i (k : Int), D.i (q : Int), D.i (n'.I.toNat : Int), D.l (swapR l.L j q)]).run = some rr) ∧ (¬ atR l.L q < atR l.L j → some (Ex.exit 0, [D.i s.I, D.i (j : Int), D.i (n'.I.toNat : Int), D.l l.L]) = some rr) := by
        intro q hq hqk hjq
        rw [hq] at h
        refine ⟨fun c => ?_, fun c => ?_⟩
        · rw [if_neg (by rw [not_or]; exact ⟨by omega, fun h => h c⟩)] at h
          refine (need_yes ⟨by simp only [I_i]; omega, by simp only [I_i]; omega, by simp only [I_i, Int.toNat_natCast]; omega, by simp only [I_i, L_l, Int.toNat_natCast, len_swap]; omega, by simp only [I_i, Int.toNat_natCast]; omega⟩).trans ?_
          simp only [I_i, L_l, Int.toNat_natCast]
          rw [downF_more k (k - 1) q (k + 1) _ (by omega) (by omega), show k - 1 + 1 = k by omega]
          exact h
        · rw [if_pos (.inr c)] at h
          exact h
      have hend : ∀ q : Nat, q < k → j < q → (((k : Int)) - (q : Int)).toNat < (m.I - i.I).toNat := fun q h1 h2 => by rw [hj, hk]; omega
      refine rd_if (fun c3 => ?_) fun c3 => ?_
      · simp only [at_take (show 2 * j + 2 < n'.I.toNat by omega), at_take (show 2 * j + 1 < n'.I.toNat by omega), at_take (show j < n'.I.toNat by omega)]
        refine rd_dec h3 (rd_yes (by rw [ht]; omega) (rd_ite (fun c4 => ?_) fun c4 => ?_))
        · have c4 := of_decide_eq_true c4
          obtain ⟨z1, z2⟩ := hstep (2 * j + 2) (by unfold kidR; rw [if_pos ⟨by omega, c4⟩]) (by omega) (by omega)
          refine rd_dec h3 (rd_yes (by rw [ht]; omega) (rd_not (fun c5 => rd_out (z2 (of_decide_eq_false c5))) fun c5 => rd_yes ⟨by omega, by omega, h3⟩ (rd_again (z1 (of_decide_eq_true c5)) (hend _ (by omega) (by omega)))))
        · have c4 := of_decide_eq_false c4
          obtain ⟨z1, z2⟩ := hstep (2 * j + 1) (by unfold kidR; rw [if_neg (fun h => c4 h.2)]) (by omega) (by omega)
          refine rd_dec h3 (rd_yes (by rw [ht]; omega) (rd_not (fun c5 => rd_out (z2 (of_decide_eq_false c5))) fun c5 => rd_yes ⟨by omega, by omega, h3⟩ (rd_again (z1 (of_decide_eq_true c5)) (hend _ (by omega) (by omega)))))
      · simp only [at_take (show 2 * j + 1 < n'.I.toNat by omega), at_take (show j < n'.I.toNat by omega)]
        obtain ⟨z1, z2⟩ := hstep (2 * j + 1) (by unfold kidR; rw [if_neg (fun h => c3 (by omega))]) (by omega) (by omega)
        refine rd_dec h3 (rd_yes (by rw [ht]; omega) (rd_not (fun c5 => rd_out (z2 (of_decide_eq_false c5))) fun c5 => rd_yes ⟨by omega, by omega, h3⟩ (rd_again (z1 (of_decide_eq_true c5)) (hend _ (by omega) (by omega)))))
  · cases h
theorem ok129 (n : Nat) : FnOKW C (n + 2) 129 (mkFW s129 G129) := by
  refine fn_ofW hC (sp := sp129) (lp := lp129) (sw := sw129) ⟨ok124 n, trivial⟩ ⟨ok126 n, trivial⟩ (by kernel_rfl) [2] (by kernel_rfl) (by kernel_rfl) (fun k hk L hL => by
    simp at hk; subst hk; cases hL; exact ok129_2 n) fun ds r h => ?_
  unfold G129 at h
  split at h
  · rename_i s m k l
    obtain ⟨hp, h⟩ := need_some h
    rw [yes_iff] at hp
    refine (congrArg T.run (t129 s m k l)).trans ?_
    simp only [Int.toNat_natCast]
    exact go_yes hp h
  · cases h
theorem len_down (m : Nat) : ∀ (f : Nat) (l : List (List D)) (i : Nat), (downF f l m i).1.length = l.length
  | 0, _, _ => rfl
  | f + 1, l, i => by
    simp only [downF]
    split
    · rfl
    · rw [len_down m f, len_swap]
theorem len_up : ∀ (f : Nat) (l : List (List D)) (j : Nat), (upF f l j).length = l.length
  | 0, _, _ => rfl
  | f + 1, l, j => by
    simp only [upF]
    split
    · rfl
    · rw [len_up f, len_swap]
theorem len_pop (l : List (List D)) (n : Nat) : (popR l n).length = l.length := by rw [popR, len_down, len_swap]
theorem ok93 (n : Nat) : FnOKW C (n + 3) 93 (mkFW s93 G93) := by
  refine fn_ofW hC (sp := sp93) (lp := lp93) (sw := sw93) ⟨ok123 (n + 1), trivial⟩ ⟨ok101 n, ok125 (n + 1), trivial⟩ (by kernel_rfl) [] (by kernel_rfl) rfl (fun k hk => by cases hk) fun ds r h => ?_
  unfold G93 at h
  split at h
  · rename_i v t m l
    obtain ⟨hp, h⟩ := need_some h
    rw [yes_iff] at hp
    obtain ⟨h1, h2⟩ := hp
    refine (congrArg T.run (t93 v t m l)).trans ?_
    simp only [Int.toNat_natCast]
    have hlen : (l.L.take m.I.toNat ++ [[D.i v.I, D.i t.I]]).length = m.I.toNat + 1 := by rw [List.length_append, List.length_take]; simp; omega
    have ht : (List.take (m.I.toNat + 1) (l.L.take m.I.toNat ++ [[D.i v.I, D.i t.I]])).length = m.I.toNat + 1 := by rw [List.length_take, hlen]; omega
    simp only [ht, hlen]
    rw [wrap_id (by omega) (by omega), show ((m.I.toNat + 1 : Nat) : Int) - 1 = (m.I.toNat : Int) by omega]
    simp only [Int.toNat_natCast]
    exact go_yes ⟨h1, h2⟩ (go_need (by simp) (go_yes ⟨by omega, by omega, by omega, by omega⟩ h))
  · cases h
theorem ok128 (n : Nat) : FnOKW C (n + 3) 128 (mkFW s128 G128) := by
  refine fn_ofW hC (sp := sp128) (lp := lp128) (sw := sw128) ⟨ok123 (n + 1), trivial⟩ ⟨ok129 n, ok126 (n + 1), ok131 (n + 1), trivial⟩ (by kernel_rfl) [] (by kernel_rfl) rfl (fun k hk => by cases hk) fun ds r h => ?_
  unfold G128 at h
  split at h
  · rename_i m l
    obtain ⟨hp, h⟩ := need_some h
    rw [yes_iff] at hp
    obtain ⟨h1, h2, h3⟩ := hp
    refine (congrArg T.run (t128 m l)).trans ?_
    simp only [Int.toNat_natCast]
    have ht : (List.take m.I.toNat l.L).length = m.I.toNat := by rw [List.length_take]; omega
    simp only [ht]
    rw [wrap_id (by omega) (by omega), show (m.I.toNat : Int) - 1 = ((m.I.toNat - 1 : Nat) : Int) by omega]
    simp only [Int.toNat_natCast]
    have hm : m.I.toNat - 1 + 1 = m.I.toNat := by omega
    simp only [hm]
    refine go_need (by simp; omega) (go_yes ⟨by omega, by omega, h2⟩ (go_yes ⟨by omega, by omega, by omega, by rw [len_swap]; omega, by omega⟩ (go_yes ⟨h1, by rw [len_down, len_swap]; omega, h3⟩ ?_)))
    exact h
  · cases h
theorem ok127 (n : Nat) : FnOKW C (n + 4) 127 (mkFW s127 G127) := by
  refine fn_ofW hC (sp := sp127) (lp := lp127) (sw := sw127) trivial ⟨ok128 n, trivial⟩ (by kernel_rfl) [] (by kernel_rfl) rfl (fun k hk => by cases hk) fun ds r h => ?_
  unfold G127 G128 at h
  split at h
  · rename_i m l
    obtain ⟨hp, h⟩ := need_some h
    rw [yes_iff] at hp
    refine (congrArg T.run (t127 m l)).trans ?_
    simp only [Int.toNat_natCast]
    exact go_yes hp h
  · cases h
end Go.Proofs.Ytgmefblkmidglaa

namespace Go.Proofs.Ytgmefblkmidglaa
open Go.Lite
set_option maxRecDepth 100000
theorem entF_okS {l : List (List D)} {c : Int} (hl : okC l) : ∀ (k i : Nat) (s : Int), okS s → okS (entF l c i k s)
  | 0, _, _, h => h
  | k + 1, i, s, h => by
    simp only [entF]
    split
    · exact entF_okS hl k _ _ (okS_of hl)
    · exact entF_okS hl k _ _ h
theorem nextF_step {r : List (List D)} {v t : Int} {j : Nat} (hj : j < r.length) : nextF r v t j (r.length - j) = if ix (r.getD j []) 0 = v then [.i (ix (r.getD j []) 1), .i (entW (r.getD j []) t + ix (r.getD j []) 2)] :: nextF r v t (j + 1) (r.length - (j + 1)) else nextF r v t (j + 1) (r.length - (j + 1)) := by
  rw [show r.length - j = (r.length - (j + 1)) + 1 by omega]
  rfl
theorem ok75_1 (q n : Nat) : LoopSimY C (n + 1) 2 75 (loopOf C.P 75 1) (some y75) q (mkLY 2 l75_1 (G75_1 q)) := by
  refine loop_ofY hC (sp := sp75) (lp := lp75 q) (sw := sw75) (Y := y75) (yOK_mk _ _ _) ⟨ok51 n, trivial⟩ trivial 2 [] (by kernel_rfl) rfl (by kernel_rfl) (fun k hk => by cases hk) (by kernel_rfl) (fun ds => ((ds.getD 2 default).I - (ds.getD 3 default).I).toNat) fun ds rr h => ?_
  unfold G75_1 at h
  split at h
  · rename_i g r m i v t
    obtain ⟨hp, h⟩ := need_some h
    rw [yes_iff] at hp
    obtain ⟨hr, ht, hm, hi0, hi1, hg⟩ := hp
    have hrl := hr.1
    refine ⟨by rw [fuelC]; simp; omega, ?_⟩
    rw [show roundTY C (mkTabY sp75 (lp75 q) sw75 y75 q) 75 (loopOf C.P 75 1) 2 l75_1 [g, r, m, i, v, t] = _ from t75_1 q g r m i v t]
    obtain ⟨j, hj⟩ : ∃ j : Nat, i.I = j := ⟨i.I.toNat, by omega⟩
    have hq : (tab75 q).q = q := rfl
    simp only [hj, hm, Int.toNat_natCast, ix_def, lx_def, Nat.reduceAdd, hq] at h hi0 hi1 ⊢
    have hnext : ∀ {G' : List (List D)}, G'.length ≤ q → ((T.ite (decide (q < G'.length + (nextF r.L v.I t.I (j + 1) (r.L.length - (j + 1))).length)) (T.leaf (Ex.ret, [D.l (G' ++ (nextF r.L v.I t.I (j + 1) (r.L.length - (j + 1))).take (q + 1 - G'.length)), D.i v.I, D.i t.I]))
        (T.leaf (Ex.exit 0, [D.l (G' ++ nextF r.L v.I t.I (j + 1) (r.L.length - (j + 1))), D.i v.I, D.i t.I]))).run = some rr) → j < r.L.length → (G75_1 q [D.l G', D.l r.L, D.i (r.L.length : Int), D.i ((j + 1 : Nat) : Int), D.i v.I, D.i t.I]).run = some rr := fun {G'} hG' h hlt => by
      refine (need_yes ⟨hr, ht, by simp only [I_i, L_l], by simp only [I_i]; omega, by simp only [I_i, L_l]; omega, hG'⟩).trans ?_
      simp only [I_i, L_l, Int.toNat_natCast]
      exact h
    have hmu : j < r.L.length → ((r.L.length : Int) - ((j + 1 : Nat) : Int)).toNat < (m.I - i.I).toNat := fun _ => by rw [hj, hm]; omega
    refine rd_if (fun hlt => ?_) fun hge => ?_
    · have hlt : j < r.L.length := by omega
      rw [nextF_step hlt] at h
      obtain ⟨hs, hc⟩ := hr.2 j hlt
      have he := entF_okS (c := ix (r.L.getD j []) 2) hc (lx (r.L.getD j []) 3).length 0 t.I ht
      unfold okS okT at *
      rw [wrap_succ (by omega)]
      refine rd_dec (by omega) (rd_ite (fun c1 => ?_) fun c1 => ?_)
      · rw [beq_iff_eq] at c1
        rw [if_pos c1] at h
        simp only [List.length_cons] at h
        rw [wrap_id (by omega) (by omega)]
        refine rd_yes ⟨hs, ht, hc⟩ (rd_ite (fun c2 => ?_) fun c2 => ?_)
        · rw [Bool.not_not] at c2
          have c2 : g.L.length = q := by simpa using c2
          rw [run_ite, if_pos (by simp; omega)] at h
          rw [show q + 1 - g.L.length = 1 by omega] at h
          exact rd_out h
        · rw [Bool.not_not] at c2
          have c2 : g.L.length ≠ q := by
            have : ¬ (g.L.length == q) = true := by rw [show (g.L.length == q) = false from c2]; simp
            simpa using this
          refine rd_again (hnext (by simp; omega) ?_ hlt) (hmu hlt)
          simp only [List.length_append, List.length_cons, List.length_nil, List.append_nil, List.append_assoc, List.cons_append, List.nil_append]
          rw [show q + 1 - g.L.length = (q + 1 - (g.L.length + (0 + 1))) + 1 by omega, List.take_succ_cons] at h
          rw [show g.L.length + (0 + 1) + (nextF r.L v.I t.I (j + 1) (r.L.length - (j + 1))).length = g.L.length + ((nextF r.L v.I t.I (j + 1) (r.L.length - (j + 1))).length + 1) by omega]
          exact h
      · rw [beq_eq_false_iff_ne] at c1
        rw [if_neg c1] at h
        exact rd_again (hnext hg h hlt) (hmu hlt)
    · rw [show r.L.length - j = 0 by omega] at h
      simp only [nextF, List.length_nil, List.append_nil] at h
      rw [run_ite] at h
      split at h
      · rename_i hc
        have := of_decide_eq_true hc
        omega
      · exact rd_out h
  · cases h
theorem ok75 (n : Nat) : IterOK C (n + 2) 75 y75 (mkFY s75 G75) := by
  refine iter_of hC (sp := sp75) (lp := lp75) (sw := sw75) (Y := y75) (yOK_mk _ _ _) ⟨ok51 n, trivial⟩ trivial (by kernel_rfl) [1] (by kernel_rfl) (by kernel_rfl) (by kernel_rfl) (fun q k hk L hL => by
    simp at hk; subst hk; cases hL; exact ok75_1 q n) fun ds L h q => ?_
  unfold G75 at h
  split at h
  · rename_i n' r v t
    obtain ⟨hp, h⟩ := need_some h
    rw [yes_iff] at hp
    cases h
    refine (congrArg T.run (t75 q n' r v t)).trans (go_yes ⟨hp.1, hp.2, rfl, by omega, by omega, by simp⟩ (go_if (fun c => ?_) fun c => ?_))
    · simp only [List.nil_append, List.length_nil, Nat.sub_zero, run_leaf]
      rfl
    · have c : ¬ q < (nextF r.L v.I t.I 0 r.L.length).length := fun h => c (by simpa using h)
      simp only [List.nil_append, run_leaf]
      rw [List.take_of_length_le (by omega)]
      rfl
  · cases h
end Go.Proofs.Ytgmefblkmidglaa

namespace Go.Proofs.Ytgmefblkmidglaa
open Go.Lite
def s73 : Sig := ⟨[.k (.int .i64), .agg [.k (.int .i64), .k (.int .i64)], .fn 74 [] [.eptr [.k (.int .i64), .k (.ro [.int .i64, .int .i64, .int .i64, .ro [.int .i64, .int .i64]])]]], [(.sl 0 1, [.row [.int .i64]])]⟩
def h73_14 : List Shp := [mkShp (72, [(2, .fn 74 [] [.eptr [.k (.int .i64), .k (.ro [.int .i64, .int .i64, .int .i64, .ro [.int .i64, .int .i64]])]]), (6, .nils), (7, .ptr 0 1 0 0), (9, .ptr 1 1 0 0), (51, .fn 75 [] [.eptr [.k (.int .i64), .k (.ro [.int .i64, .int .i64, .int .i64, .ro [.int .i64, .int .i64]])], .any, .any])], [.box [.sl 2 1], .box [.ifc 159 (.ptr 3 1 0 0)], .row [.int .i64], .box [.sl 4 2], .row [.int .i64, .int .i64]])]
def l73_3 : LSig := mkLS [2, 4, 6, 7, 15, 16] [(72, [(2, .fn 74 [] [.eptr [.k (.int .i64), .k (.ro [.int .i64, .int .i64, .int .i64, .ro [.int .i64, .int .i64]])]]), (4, .ptr 0 2 0 0), (6, .nils), (7, .ptr 1 1 0 0), (15, .k (.int .i64)), (16, .k (.int .i64))], [.box [.k (.int .i64), .k (.int .i64)], .box [.sl 2 1], .row [.int .i64]])] [(.exit 0, [2, 4, 6, 7], [(72, [(2, .fn 74 [] [.eptr [.k (.int .i64), .k (.ro [.int .i64, .int .i64, .int .i64, .ro [.int .i64, .int .i64]])]]), (4, .ptr 0 2 0 0), (6, .nils), (7, .ptr 1 1 0 0)], [.box [.k (.int .i64), .k (.int .i64)], .box [.sl 2 1], .row [.int .i64]])])]
def l73_9 : LSig := mkLS [2, 6, 7, 9] [(72, [(2, .fn 74 [] [.eptr [.k (.int .i64), .k (.ro [.int .i64, .int .i64, .int .i64, .ro [.int .i64, .int .i64]])]]), (6, .nils), (7, .ptr 0 1 0 0), (9, .ptr 1 1 0 0)], [.box [.sl 2 1], .box [.ifc 159 (.ptr 3 1 0 0)], .row [.int .i64], .box [.sl 4 2], .row [.int .i64, .int .i64]])] [(.exit 2, [7], [(72, [(7, .ptr 0 1 0 0)], [.box [.sl 1 1], .row [.int .i64]])])]
def s46 : Sig := ⟨[.agg [.k (.int .i64), .k (.ro [.int .i64, .int .i64, .int .i64, .ro [.int .i64, .int .i64]])], .k (.int .i64), .k (.int .i64)], [(.sl 0 1, [.row [.int .i64]])]⟩
def l46_3 : LSig := mkLS [7, 17, 18, 19] [(31, [(7, .sl 0 1), (17, .sl 0 1), (18, .k (.int .i64)), (19, .k (.int .i64))], [.row [.int .i64]])] [(.exit 0, [7], [(31, [(7, .sl 0 1)], [.row [.int .i64]])])]
end Go.Proofs.Ytgmefblkmidglaa

namespace Go.Proofs.Ytgmefblkmidglaa
open Go.Lite
noncomputable section
/-- A search's state: the times, how many wait, and who. -/
structure Sr where
  o : List (List D)
  k : Nat
  q : List (List D)
def relF : List (List D) → Sr → Sr
  | [], s => s
  | e :: es, s => if ix e 1 < rg s.o (ix e 0).toNat then relF es ⟨rs s.o (ix e 0).toNat (ix e 1), s.k + 1, pushR s.q s.k (ix e 0) (ix e 1)⟩ else relF es s
/-- Who is taken. -/
def takeV (s : Sr) : Int := ix ((popR s.q s.k).getD (s.k - 1) []) 0
def takeT (s : Sr) : Int := ix ((popR s.q s.k).getD (s.k - 1) []) 1
def stepS (r : List (List D)) (s : Sr) : Sr :=
  if takeT s > rg s.o (takeV s).toNat then ⟨s.o, s.k - 1, popR s.q s.k⟩ else relF (nextF r (takeV s) (takeT s) 0 r.length) ⟨s.o, s.k - 1, popR s.q s.k⟩
/-- What a step needs; n: how many places there are. -/
def needS (n : Nat) (r : List (List D)) (s : Sr) : Prop := s.k ≤ s.q.length ∧ s.k < 274877906944 ∧ n ≤ s.o.length ∧ (0 ≤ takeV s ∧ takeV s < n) ∧ okS (takeT s) ∧ okR r ∧ r.length < 274877906944 ∧ ∀ i, i < r.length → 0 ≤ ix (r.getD i []) 1 ∧ ix (r.getD i []) 1 < n
/-- A search ends after so many steps. -/
def endsS (n : Nat) (r : List (List D)) : Nat → Sr → Prop
  | 0, s => s.k = 0
  | f + 1, s => s.k ≠ 0 ∧ needS n r s ∧ endsS n r f (stepS r s)
def runSr (r : List (List D)) : Nat → Sr → List (List D)
  | 0, s => s.o
  | f + 1, s => runSr r f (stepS r s)
def lenS (n : Nat) (r : List (List D)) (s : Sr) : Nat := Classical.epsilon fun f => endsS n r f s
def resS (n : Nat) (r : List (List D)) (s : Sr) : List (List D) := runSr r (lenS n r s) s
def haltS (n : Nat) (r : List (List D)) (s : Sr) : Prop := ∃ f, f < 9223372036854775808 ∧ endsS n r f s
def mkSr (o k q : D) : Sr := ⟨o.L, k.I.toNat, q.L⟩
def fillF (v : Int) : Nat → Nat → List (List D) → List (List D)
  | _, 0, l => l
  | i, k + 1, l => fillF v (i + 1) k (rs l i v)
def G73_3 (ds : List D) : T (Ex × List D) := match ds with
  | [n, r, m, i, x, y, k, l] => .need (yes (m.I = (k.I.toNat : Int) ∧ k.I.toNat ≤ l.L.length ∧ 0 ≤ i.I ∧ i.I ≤ m.I ∧ m.I < 1099511627776)) (.leaf (.exit 0, [.i n.I, .l r.L, .i x.I, .i y.I, .i (k.I.toNat : Int), .l (fillF 9223372036854775807 i.I.toNat (k.I.toNat - i.I.toNat) l.L)]))
  | _ => .fail
def G73_9 (ds : List D) : T (Ex × List D) := match ds with
  | [_, r, n, o, k, q] => .need (yes (haltS n.I.toNat r.L (mkSr o k q))) (.leaf (.exit 2, [.i (n.I.toNat : Int), .l (resS n.I.toNat r.L (mkSr o k q))]))
  | _ => .fail
def G73_14 (L : List (List D)) (ds : List D) : T (Ex × List D) := match ds with
  | [a, r, a', r', n, o, k, q] => .need (yes (n.I.toNat ≤ o.L.length ∧ k.I.toNat ≤ q.L.length ∧ k.I.toNat + L.length < 549755813888 ∧ ∀ e ∈ L, 0 ≤ ix e 0 ∧ ix e 0 < (n.I.toNat : Int)))
      (.leaf (.normal, [.i a.I, .l r.L, .i a'.I, .l r'.L, .i (n.I.toNat : Int), .l (relF L (mkSr o k q)).o, .i ((relF L (mkSr o k q)).k : Int), .l (relF L (mkSr o k q)).q]))
  | _ => .fail
/-- Where a search begins. -/
def startS (n : Int) (v t : Int) : Sr := ⟨rs (List.replicate n.toNat [.i 9223372036854775807]) v.toNat t, 1, [[.i v, .i t]]⟩
def G73 (ds : List D) : T (List D) := match ds with
  | [n, v, t, _, r] => .need (yes (0 ≤ n.I ∧ n.I < 1099511627776 ∧ 0 ≤ v.I ∧ v.I < n.I ∧ haltS n.I.toNat r.L (startS n.I v.I t.I))) (.leaf [.i n.I, .l (resS n.I.toNat r.L (startS n.I v.I t.I))])
  | _ => .fail
/-- Places that cannot be reached. -/
def noneF : Nat → Nat → List (List D) → List (List D)
  | _, 0, l => l
  | i, k + 1, l => noneF (i + 1) k (if rg l i = 9223372036854775807 then rs l i (-1) else l)
def G46_3 (ds : List D) : T (Ex × List D) := match ds with
  | [n, n2, m, i, l] => .need (yes (m.I = (n.I.toNat : Int) ∧ n2.I.toNat = n.I.toNat ∧ n.I.toNat ≤ l.L.length ∧ 0 ≤ i.I ∧ i.I ≤ m.I ∧ m.I < 1099511627776)) (.leaf (.exit 0, [.i (n.I.toNat : Int), .l (noneF i.I.toNat (n.I.toNat - i.I.toNat) l.L)]))
  | _ => .fail
def arrF (n : Int) (r : List (List D)) (v t : Int) : List (List D) := noneF 0 n.toNat (resS n.toNat r (startS n v t))
def G46 (ds : List D) : T (List D) := match ds with
  | [n, r, v, t] => .need (yes (0 ≤ n.I ∧ n.I < 1099511627776 ∧ 0 ≤ v.I ∧ v.I < n.I ∧ haltS n.I.toNat r.L (startS n.I v.I t.I))) (.leaf [.i n.I, .l (arrF n.I r.L v.I t.I)])
  | _ => .fail
end
end Go.Proofs.Ytgmefblkmidglaa

namespace Go.Proofs.Ytgmefblkmidglaa
open Go.Lite
noncomputable def it73_14 : ItL := [(75, mkFY s75 G75)]
noncomputable def sp73 : SpL := [(123, mkF s123 G123)]
noncomputable def lp73 : LpL := [(3, mkL l73_3 G73_3), (9, mkL l73_9 G73_9)]
noncomputable def sw73 : SwL := [(93, mkFW s93 G93), (74, mkFW s74 G74), (127, mkFW s127 G127)]
noncomputable def rg73 : LpL := [(14, rangeS 0 [2, 6, 7, 9, 51] (rangeOf C.P 73 14).1 it73_14 h73_14 G73_14)]
noncomputable def tab73 : Tab := mkTabR sp73 lp73 sw73 rg73
noncomputable def sp46 : SpL := [(73, mkF s73 G73)]
noncomputable def lp46 : LpL := [(3, mkL l46_3 G46_3)]
noncomputable def sw46 : SwL := [(74, mkFW s74 G74)]
noncomputable def tab46 : Tab := mkTab sp46 lp46 sw46
end Go.Proofs.Ytgmefblkmidglaa

namespace Go.Proofs.Ytgmefblkmidglaa
open Go.Lite
set_option linter.unusedVariables false
set_option maxRecDepth 100000
theorem t73 (a b c d e : D) : fnT C tab73 73 s73 [a, b, c, d, e] =
  T.need (decide ((0 : Int) ≤ D.I a ∧ D.I a = D.I a ∧ D.I a ≤ (2 : Int) ^ 40 ∧ (↑Try.prog.types[3].bytes : Int) * D.I a ≤ (2 : Int) ^ 46)) (T.need (yes ((↑(List.length (List.replicate (Int.toNat (D.I a)) [D.i (0 : Int)])) : Int) = (↑(Int.toNat (↑(List.length (List.replicate (Int.toNat (D.I a)) [D.i (0 : Int)])) : Int)) : Int) ∧ Int.toNat (↑(List.length (List.replicate (Int.toNat (D.I a)) [D.i (0 : Int)])) : Int) ≤ List.length (List.replicate (Int.toNat (D.I a)) [D.i (0 : Int)]) ∧ (0 : Int) ≤ (0 : Int) ∧ (0 : Int) ≤ (↑(List.length (List.replicate (Int.toNat (D.I a)) [D.i (0 : Int)])) : Int) ∧ (↑(List.length (List.replicate (Int.toNat (D.I a)) [D.i (0 : Int)])) : Int) < (1099511627776 : Int))) (T.need (decide ((0 : Int) ≤ D.I b ∧ D.I b < (↑(Int.toNat (↑(Int.toNat (↑(List.length (List.replicate (Int.toNat (D.I a)) [D.i (0 : Int)])) : Int)) : Int)) : Int))) (T.need (decide (Int.toNat (D.I b) < List.length (fillF (9223372036854775807 : Int) (Int.toNat (0 : Int)) (Int.toNat (↑(List.length (List.replicate (Int.toNat (D.I a)) [D.i (0 : Int)])) : Int) - Int.toNat (0 : Int)) (List.replicate (Int.toNat (D.I a)) [D.i (0 : Int)])))) (T.need (yes (haltS (Int.toNat (↑(Int.toNat (↑(Int.toNat (↑(List.length (List.replicate (Int.toNat (D.I a)) [D.i (0 : Int)])) : Int)) : Int)) : Int)) (D.L e) (mkSr (D.l (List.set (fillF (9223372036854775807 : Int) (Int.toNat (0 : Int)) (Int.toNat (↑(List.length (List.replicate (Int.toNat (D.I a)) [D.i (0 : Int)])) : Int) - Int.toNat (0 : Int)) (List.replicate (Int.toNat (D.I a)) [D.i (0 : Int)])) (Int.toNat (D.I b)) (updC (List.getD (fillF (9223372036854775807 : Int) (Int.toNat (0 : Int)) (Int.toNat (↑(List.length (List.replicate (Int.toNat (D.I a)) [D.i (0 : Int)])) : Int) - Int.toNat (0 : Int)) (List.replicate (Int.toNat (D.I a)) [D.i (0 : Int)])) (Int.toNat (D.I b)) []) [D.i (D.I c)] 0 0 (List.length [K.int IntKind.i64])))) (D.i (↑(List.length [[D.i (D.I b), D.i (D.I c)]]) : Int)) (D.l [[D.i (D.I b), D.i (D.I c)]])))) (T.leaf [D.i (↑(Int.toNat (↑(Int.toNat (↑(Int.toNat (↑(Int.toNat (↑(List.length (List.replicate (Int.toNat (D.I a)) [D.i (0 : Int)])) : Int)) : Int)) : Int)) : Int)) : Int), D.l (resS (Int.toNat (↑(Int.toNat (↑(Int.toNat (↑(List.length (List.replicate (Int.toNat (D.I a)) [D.i (0 : Int)])) : Int)) : Int)) : Int)) (D.L e) (mkSr (D.l (List.set (fillF (9223372036854775807 : Int) (Int.toNat (0 : Int)) (Int.toNat (↑(List.length (List.replicate (Int.toNat (D.I a)) [D.i (0 : Int)])) : Int) - Int.toNat (0 : Int)) (List.replicate (Int.toNat (D.I a)) [D.i (0 : Int)])) (Int.toNat (D.I b)) (updC (List.getD (fillF (9223372036854775807 : Int) (Int.toNat (0 : Int)) (Int.toNat (↑(List.length (List.replicate (Int.toNat (D.I a)) [D.i (0 : Int)])) : Int) - Int.toNat (0 : Int)) (List.replicate (Int.toNat (D.I a)) [D.i (0 : Int)])) (Int.toNat (D.I b)) []) [D.i (D.I c)] 0 0 (List.length [K.int IntKind.i64])))) (D.i (↑(List.length [[D.i (D.I b), D.i (D.I c)]]) : Int)) (D.l [[D.i (D.I b), D.i (D.I c)]])))]))))) := by kernel_rfl
theorem t73_3 (a b c d e f g h : D) : roundT C tab73 73 (loopOf C.P 73 3) l73_3 [a, b, c, d, e, f, g, h] =
  T.ite (decide (D.I d < D.I c)) (T.need (decide ((0 : Int) ≤ D.I d ∧ D.I d < (↑(Int.toNat (D.I g)) : Int))) (T.need (decide (Int.toNat (D.I d) < List.length (D.L h))) (T.leaf (Rd.again [D.i (D.I a), D.l (D.L b), D.i (D.I c), D.i (IntKind.wrap IntKind.i64 (D.I d + (1 : Int))), D.i (D.I e), D.i (D.I f), D.i (↑(Int.toNat (D.I g)) : Int), D.l (List.set (D.L h) (Int.toNat (D.I d)) (updC (List.getD (D.L h) (Int.toNat (D.I d)) []) [D.i (9223372036854775807 : Int)] 0 0 (List.length [K.int IntKind.i64])))])))) (T.leaf (Rd.out (Ex.exit 0) [D.i (D.I a), D.l (D.L b), D.i (D.I e), D.i (D.I f), D.i (↑(Int.toNat (D.I g)) : Int), D.l (D.L h)])) := by kernel_rfl
theorem t73_9 (a b c d e f : D) : roundT C tab73 73 (loopOf C.P 73 9) l73_9 [a, b, c, d, e, f] =
  T.need (decide (Int.toNat (D.I e) ≤ List.length (D.L f))) (T.ite (decide ((↑(List.length (List.take (Int.toNat (D.I e)) (D.L f))) : Int) > (0 : Int))) (T.need (yes (1 ≤ Int.toNat (↑(Int.toNat (D.I e)) : Int) ∧ Int.toNat (↑(Int.toNat (D.I e)) : Int) ≤ List.length (D.L f) ∧ Int.toNat (↑(Int.toNat (D.I e)) : Int) < 1099511627776)) (T.need (decide ((0 : Int) ≤ ix (List.getD (popR (D.L f) (Int.toNat (↑(Int.toNat (D.I e)) : Int))) (Int.toNat (↑(Int.toNat (D.I e)) : Int) - 1) []) 0 ∧ ix (List.getD (popR (D.L f) (Int.toNat (↑(Int.toNat (D.I e)) : Int))) (Int.toNat (↑(Int.toNat (D.I e)) : Int) - 1) []) 0 < (↑(Int.toNat (D.I c)) : Int))) (T.need (decide (Int.toNat (ix (List.getD (popR (D.L f) (Int.toNat (↑(Int.toNat (D.I e)) : Int))) (Int.toNat (↑(Int.toNat (D.I e)) : Int) - 1) []) 0) < List.length (D.L d))) (T.ite (decide (ix (List.getD (popR (D.L f) (Int.toNat (↑(Int.toNat (D.I e)) : Int))) (Int.toNat (↑(Int.toNat (D.I e)) : Int) - 1) []) 1 > D.I (List.getD (List.getD (D.L d) (Int.toNat (ix (List.getD (popR (D.L f) (Int.toNat (↑(Int.toNat (D.I e)) : Int))) (Int.toNat (↑(Int.toNat (D.I e)) : Int) - 1) []) 0)) []) 0 default))) (T.leaf (Rd.again [D.i (D.I a), D.l (D.L b), D.i (↑(Int.toNat (D.I c)) : Int), D.l (D.L d), D.i (↑(Int.toNat (↑(Int.toNat (↑(Int.toNat (D.I e)) : Int) - 1) : Int)) : Int), D.l (popR (D.L f) (Int.toNat (↑(Int.toNat (D.I e)) : Int)))])) (T.need (yes (okR (D.L b) ∧ okS (ix (List.getD (popR (D.L f) (Int.toNat (↑(Int.toNat (D.I e)) : Int))) (Int.toNat (↑(Int.toNat (D.I e)) : Int) - 1) []) 1))) (T.need (yes (Int.toNat (↑(Int.toNat (D.I c)) : Int) ≤ List.length (D.L d) ∧ Int.toNat (↑(Int.toNat (↑(Int.toNat (↑(Int.toNat (D.I e)) : Int) - 1) : Int)) : Int) ≤ List.length (popR (D.L f) (Int.toNat (↑(Int.toNat (D.I e)) : Int))) ∧ Int.toNat (↑(Int.toNat (↑(Int.toNat (↑(Int.toNat (D.I e)) : Int) - 1) : Int)) : Int) + List.length (nextF (D.L b) (ix (List.getD (popR (D.L f) (Int.toNat (↑(Int.toNat (D.I e)) : Int))) (Int.toNat (↑(Int.toNat (D.I e)) : Int) - 1) []) 0) (ix (List.getD (popR (D.L f) (Int.toNat (↑(Int.toNat (D.I e)) : Int))) (Int.toNat (↑(Int.toNat (D.I e)) : Int) - 1) []) 1) 0 (List.length (D.L b))) < 549755813888 ∧ ∀ (e_1 : List D), e_1 ∈ nextF (D.L b) (ix (List.getD (popR (D.L f) (Int.toNat (↑(Int.toNat (D.I e)) : Int))) (Int.toNat (↑(Int.toNat (D.I e)) : Int) - 1) []) 0) (ix (List.getD (popR (D.L f) (Int.toNat (↑(Int.toNat (D.I e)) : Int))) (Int.toNat (↑(Int.toNat (D.I e)) : Int) - 1) []) 1) 0 (List.length (D.L b)) → (0 : Int) ≤ ix e_1 0 ∧ ix e_1 0 < (↑(Int.toNat (↑(Int.toNat (D.I c)) : Int)) : Int))) (T.leaf (Rd.again [D.i (D.I a), D.l (D.L b), D.i (↑(Int.toNat (↑(Int.toNat (↑(Int.toNat (D.I c)) : Int)) : Int)) : Int), D.l (relF (nextF (D.L b) (ix (List.getD (popR (D.L f) (Int.toNat (↑(Int.toNat (D.I e)) : Int))) (Int.toNat (↑(Int.toNat (D.I e)) : Int) - 1) []) 0) (ix (List.getD (popR (D.L f) (Int.toNat (↑(Int.toNat (D.I e)) : Int))) (Int.toNat (↑(Int.toNat (D.I e)) : Int) - 1) []) 1) 0 (List.length (D.L b))) (mkSr (D.l (D.L d)) (D.i (↑(Int.toNat (↑(Int.toNat (↑(Int.toNat (D.I e)) : Int) - 1) : Int)) : Int)) (D.l (popR (D.L f) (Int.toNat (↑(Int.toNat (D.I e)) : Int)))))).o, D.i (↑(Int.toNat (↑(relF (nextF (D.L b) (ix (List.getD (popR (D.L f) (Int.toNat (↑(Int.toNat (D.I e)) : Int))) (Int.toNat (↑(Int.toNat (D.I e)) : Int) - 1) []) 0) (ix (List.getD (popR (D.L f) (Int.toNat (↑(Int.toNat (D.I e)) : Int))) (Int.toNat (↑(Int.toNat (D.I e)) : Int) - 1) []) 1) 0 (List.length (D.L b))) (mkSr (D.l (D.L d)) (D.i (↑(Int.toNat (↑(Int.toNat (↑(Int.toNat (D.I e)) : Int) - 1) : Int)) : Int)) (D.l (popR (D.L f) (Int.toNat (↑(Int.toNat (D.I e)) : Int)))))).k : Int)) : Int), D.l (relF (nextF (D.L b) (ix (List.getD (popR (D.L f) (Int.toNat (↑(Int.toNat (D.I e)) : Int))) (Int.toNat (↑(Int.toNat (D.I e)) : Int) - 1) []) 0) (ix (List.getD (popR (D.L f) (Int.toNat (↑(Int.toNat (D.I e)) : Int))) (Int.toNat (↑(Int.toNat (D.I e)) : Int) - 1) []) 1) 0 (List.length (D.L b))) (mkSr (D.l (D.L d)) (D.i (↑(Int.toNat (↑(Int.toNat (↑(Int.toNat (D.I e)) : Int) - 1) : Int)) : Int)) (D.l (popR (D.L f) (Int.toNat (↑(Int.toNat (D.I e)) : Int)))))).q])))))))) (T.leaf (Rd.out (Ex.exit 2) [D.i (↑(Int.toNat (D.I c)) : Int), D.l (D.L d)]))) := by kernel_rfl
theorem t73_r14 (a b c d e f g h i j : D) : roundRT C tab73 73 (rangeOf C.P 73 14) 0 5 [2, 6, 7, 9, 51] h73_14 y75 [a, b, c, d, e, f, g, h] [i, j] =
  T.need (decide ((0 : Int) ≤ D.I i ∧ D.I i < (↑(Int.toNat (D.I e)) : Int))) (T.need (decide (Int.toNat (D.I i) < List.length (D.L f))) (T.ite (decide (D.I j < D.I (List.getD (List.getD (D.L f) (Int.toNat (D.I i)) []) 0 default))) (T.need (decide ((0 : Int) ≤ D.I i ∧ D.I i < (↑(Int.toNat (D.I e)) : Int))) (T.need (decide (Int.toNat (D.I i) < List.length (D.L f))) (T.need (yes (Int.toNat (↑(Int.toNat (D.I g)) : Int) ≤ List.length (D.L h) ∧ Int.toNat (↑(Int.toNat (D.I g)) : Int) < 1099511627776)) (T.leaf (Rd.again [D.i (D.I a), D.l (D.L b), D.i (D.I c), D.l (D.L d), D.i (↑(Int.toNat (D.I e)) : Int), D.l (List.set (D.L f) (Int.toNat (D.I i)) (updC (List.getD (D.L f) (Int.toNat (D.I i)) []) [D.i (D.I j)] 0 0 (List.length [K.int IntKind.i64]))), D.i (↑(Int.toNat (↑(Int.toNat (↑(Int.toNat (D.I g)) : Int) + 1) : Int)) : Int), D.l (pushR (D.L h) (Int.toNat (↑(Int.toNat (D.I g)) : Int)) (D.I i) (D.I j))], []))))) (T.leaf (Rd.again [D.i (D.I a), D.l (D.L b), D.i (D.I c), D.l (D.L d), D.i (↑(Int.toNat (D.I e)) : Int), D.l (D.L f), D.i (↑(Int.toNat (D.I g)) : Int), D.l (D.L h)], [])))) := by kernel_rfl
theorem t46 (a b c d : D) : fnT C tab46 46 s46 [a, b, c, d] =
  T.need (yes ((0 : Int) ≤ D.I a ∧ D.I a < (1099511627776 : Int) ∧ (0 : Int) ≤ D.I c ∧ D.I c < D.I a ∧ haltS (Int.toNat (D.I a)) (D.L b) (startS (D.I a) (D.I c) (D.I d)))) (T.need (yes ((↑(Int.toNat (D.I a)) : Int) = (↑(Int.toNat (↑(Int.toNat (D.I a)) : Int)) : Int) ∧ Int.toNat (↑(Int.toNat (D.I a)) : Int) = Int.toNat (↑(Int.toNat (D.I a)) : Int) ∧ Int.toNat (↑(Int.toNat (D.I a)) : Int) ≤ List.length (resS (Int.toNat (D.I a)) (D.L b) (startS (D.I a) (D.I c) (D.I d))) ∧ (0 : Int) ≤ (0 : Int) ∧ (0 : Int) ≤ (↑(Int.toNat (D.I a)) : Int) ∧ (↑(Int.toNat (D.I a)) : Int) < (1099511627776 : Int))) (T.leaf [D.i (↑(Int.toNat (↑(Int.toNat (↑(Int.toNat (D.I a)) : Int)) : Int)) : Int), D.l (noneF (Int.toNat (0 : Int)) (Int.toNat (↑(Int.toNat (D.I a)) : Int) - Int.toNat (0 : Int)) (resS (Int.toNat (D.I a)) (D.L b) (startS (D.I a) (D.I c) (D.I d))))])) := by kernel_rfl
theorem t46_3 (a b c d e : D) : roundT C tab46 46 (loopOf C.P 46 3) l46_3 [a, b, c, d, e] =
  T.ite (decide (D.I d < D.I c)) (T.need (decide ((0 : Int) ≤ D.I d ∧ D.I d < (↑(Int.toNat (D.I b)) : Int))) (T.need (decide (Int.toNat (D.I d) < List.length (D.L e))) (T.ite (D.I (List.getD (List.getD (D.L e) (Int.toNat (D.I d)) []) 0 default) == (9223372036854775807 : Int)) (T.need (decide ((0 : Int) ≤ D.I d ∧ D.I d < (↑(Int.toNat (D.I a)) : Int))) (T.need (decide (Int.toNat (D.I d) < List.length (D.L e))) (T.leaf (Rd.again [D.i (↑(Int.toNat (D.I a)) : Int), D.i (↑(Int.toNat (D.I b)) : Int), D.i (D.I c), D.i (IntKind.wrap IntKind.i64 (D.I d + (1 : Int))), D.l (List.set (D.L e) (Int.toNat (D.I d)) (updC (List.getD (D.L e) (Int.toNat (D.I d)) []) [D.i (-1 : Int)] 0 0 (List.length [K.int IntKind.i64])))])))) (T.leaf (Rd.again [D.i (↑(Int.toNat (D.I a)) : Int), D.i (↑(Int.toNat (D.I b)) : Int), D.i (D.I c), D.i (IntKind.wrap IntKind.i64 (D.I d + (1 : Int))), D.l (D.L e)]))))) (T.leaf (Rd.out (Ex.exit 0) [D.i (↑(Int.toNat (D.I a)) : Int), D.l (D.L e)])) := by kernel_rfl
end Go.Proofs.Ytgmefblkmidglaa

namespace Go.Proofs.Ytgmefblkmidglaa
open Go.Lite
set_option maxRecDepth 100000
theorem ok73_3 (n : Nat) : LoopSim C (n + 4) 73 (loopOf C.P 73 3) (mkL l73_3 G73_3) := by
  refine loop_ofR hC (sp := sp73) (lp := lp73) (sw := sw73) (rg := rg73) ⟨ok123 (n + 3), trivial⟩ ⟨ok93 (n + 1), ok74 (n + 3), ok127 n, trivial⟩ 0 [] [] (by kernel_rfl) rfl (by kernel_rfl) rfl (fun k hk => by cases hk) (fun k hk => by cases hk) (by kernel_rfl) (fun ds => ((ds.getD 2 default).I - (ds.getD 3 default).I).toNat) fun ds rr h => ?_
  unfold G73_3 at h
  split at h
  · rename_i a r m i x y k l
    obtain ⟨hp, h⟩ := need_some h
    rw [yes_iff] at hp
    obtain ⟨hm, hk, hi0, hi1, hm2⟩ := hp
    refine ⟨by rw [fuelC]; simp; omega, ?_⟩
    rw [show roundTK C (mkTabR sp73 lp73 sw73 rg73) 73 (loopOf C.P 73 3) 0 l73_3 [a, r, m, i, x, y, k, l] = _ from t73_3 a r m i x y k l]
    obtain ⟨j, hj⟩ : ∃ j : Nat, i.I = j := ⟨i.I.toNat, by omega⟩
    simp only [hj, hm, Int.toNat_natCast, upd1, rs_def] at h hi0 hi1 hm2 ⊢
    refine rd_if (fun hlt => ?_) fun hge => ?_
    · rw [wrap_succ (by omega)]
      rw [show k.I.toNat - j = (k.I.toNat - (j + 1)) + 1 by omega] at h
      refine rd_dec (by omega) (rd_dec (by omega) (rd_again ((need_yes ⟨by simp only [I_i, Int.toNat_natCast], by simp only [I_i, L_l, Int.toNat_natCast, len_rs]; exact hk, by simp only [I_i]; omega, by simp only [I_i]; omega, by simp only [I_i]; omega⟩).trans ?_) ?_))
      · simp only [I_i, L_l, Int.toNat_natCast]
        exact h
      · show ((k.I.toNat : Int) - ((j + 1 : Nat) : Int)).toNat < (m.I - i.I).toNat
        rw [hj, hm]; omega
    · rw [show k.I.toNat - j = 0 by omega] at h
      exact rd_out h
  · cases h
theorem rel_len : ∀ (L : List (List D)) (s : Sr), (relF L s).o.length = s.o.length
  | [], _ => rfl
  | e :: es, s => by
    simp only [relF]
    split
    · rw [rel_len es, len_rs]
    · exact rel_len es s
theorem len_push (l : List (List D)) {n : Nat} (v t : Int) (h : n ≤ l.length) : (pushR l n v t).length = n + 1 := by
  unfold pushR
  rw [len_up, List.length_append, List.length_take]
  simp
  omega
theorem rel_q : ∀ (L : List (List D)) (s : Sr), s.k ≤ s.q.length → (relF L s).k ≤ (relF L s).q.length ∧ (relF L s).k ≤ s.k + L.length
  | [], s, h => ⟨h, Nat.le_refl _⟩
  | e :: es, s, h => by
    simp only [relF]
    split
    · have := rel_q es ⟨rs s.o (ix e 0).toNat (ix e 1), s.k + 1, pushR s.q s.k (ix e 0) (ix e 1)⟩ (by rw [len_push _ _ _ h]; exact Nat.le_refl _)
      simp only at this
      simp only [List.length_cons]
      omega
    · have := rel_q es s h
      simp only [List.length_cons]
      omega
theorem head75 (e : List D) : y75.head e = y75.head [e.getD 0 default, e.getD 1 default] := by
  match e with
  | [] => rfl
  | [_] => rfl
  | _ :: _ :: _ => rfl
theorem fold73 (L : List (List D)) : ∀ (ds : List D) (rr : Ex × List D), (G73_14 L ds).run = some rr → FoldR (fun ds el => (roundRT C tab73 73 (rangeOf C.P 73 14) 0 5 [2, 6, 7, 9, 51] h73_14 y75 ds el).run) y75.give (fun a b => headA h73_14 a = headA h73_14 b) ds L rr.1 rr.2 := by
  induction L with
  | nil =>
    intro ds rr h
    unfold G73_14 at h
    split at h
    · rename_i a r a' r' m o k q
      obtain ⟨-, h⟩ := need_some h
      cases h
      exact .nil (by rfl)
    · cases h
  | cons e es ih =>
    intro ds rr h
    unfold G73_14 at h
    split at h
    · rename_i a r a' r' m o k q
      obtain ⟨hp, h⟩ := need_some h
      rw [yes_iff] at hp
      obtain ⟨h1, h2, h3, h4⟩ := hp
      simp only [List.length_cons] at h3
      obtain ⟨e1, e2⟩ := h4 e List.mem_cons_self
      have h5 : ∀ x ∈ es, 0 ≤ ix x 0 ∧ ix x 0 < (m.I.toNat : Int) := fun x hx => h4 x (List.mem_cons_of_mem _ hx)
      have key : ∀ (i j : D), i.I = ix e 0 → j.I = ix e 1 → ∃ ds', (roundRT C tab73 73 (rangeOf C.P 73 14) 0 5 [2, 6, 7, 9, 51] h73_14 y75 [a, r, a', r', m, o, k, q] [i, j]).run = some (.again ds', []) ∧ (G73_14 es ds').run = some rr := by
        intro i j hi hj
        have ht := congrArg T.run (t73_r14 a r a' r' m o k q i j)
        rw [ht]
        simp only [hi, hj, Int.toNat_natCast, upd1, rs_def, rg_def]
        by_cases hc : ix e 1 < rg o.L (ix e 0).toNat
        · have hrel : relF (e :: es) (mkSr o k q) = relF es ⟨rs o.L (ix e 0).toNat (ix e 1), k.I.toNat + 1, pushR q.L k.I.toNat (ix e 0) (ix e 1)⟩ := by
            simp only [relF]
            exact if_pos hc
          rw [hrel] at h
          refine ⟨_, go_dec ⟨e1, e2⟩ (go_dec (by omega) (go_pos hc (go_dec ⟨e1, e2⟩ (go_dec (by omega) (go_yes ⟨h2, by omega⟩ rfl))))), ?_⟩
          refine (need_yes ⟨by simp only [I_i, L_l, Int.toNat_natCast, len_rs]; exact h1, by simp only [I_i, L_l, Int.toNat_natCast]; rw [len_push _ _ _ h2]; exact Nat.le_refl _, by simp only [I_i, Int.toNat_natCast]; omega, by simp only [I_i, Int.toNat_natCast]; exact h5⟩).trans ?_
          simp only [mkSr, I_i, L_l, Int.toNat_natCast]
          exact h
        · have hrel : relF (e :: es) (mkSr o k q) = relF es (mkSr o k q) := by
            simp only [relF]
            exact if_neg hc
          rw [hrel] at h
          refine ⟨_, go_dec ⟨e1, e2⟩ (go_dec (by omega) (go_neg hc rfl)), ?_⟩
          refine (need_yes ⟨by simp only [I_i, L_l, Int.toNat_natCast]; exact h1, by simp only [I_i, L_l, Int.toNat_natCast]; exact h2, by simp only [I_i, Int.toNat_natCast]; omega, by simp only [I_i, Int.toNat_natCast]; exact h5⟩).trans ?_
          simp only [mkSr, I_i, L_l, Int.toNat_natCast] at h ⊢
          exact h
      obtain ⟨ds', k1, k2⟩ := key (e.getD 0 default) (e.getD 1 default) rfl rfl
      refine .again (x' := []) (ds' := ds') ?_ (fun h => by cases h) (ih _ _ k2)
      have : roundRT C tab73 73 (rangeOf C.P 73 14) 0 5 [2, 6, 7, 9, 51] h73_14 y75 [a, r, a', r', m, o, k, q] e = roundRT C tab73 73 (rangeOf C.P 73 14) 0 5 [2, 6, 7, 9, 51] h73_14 y75 [a, r, a', r', m, o, k, q] [e.getD 0 default, e.getD 1 default] := by
        unfold roundRT
        rw [head75 e]
      rw [this]
      exact k1
    · cases h
theorem ok73_14 (n : Nat) : CodeSim C (n + 4) 0 73 (rangeOf C.P 73 14).code none 0 (rangeS 0 [2, 6, 7, 9, 51] (rangeOf C.P 73 14).1 it73_14 h73_14 G73_14) :=
  range_of hC (sp := sp73) (lp := lp73) (sw := sw73) (rg := rg73) (Y := y75) (yOK_mk _ _ _) ⟨ok123 (n + 3), trivial⟩ ⟨ok93 (n + 1), ok74 (n + 3), ok127 n, trivial⟩ 14 0 5 [] (by kernel_rfl) rfl (by kernel_rfl) (by exact ⟨by kernel_rfl, by kernel_rfl⟩) (fun k hk => by cases hk)
    (by kernel_rfl) (by kernel_rfl) (it := it73_14) ⟨ok75 (n + 2), trivial⟩ fun L ds rr h => fold73 L ds rr h
/-- Steps that end. -/
theorem ends_uniq {m : Nat} {r : List (List D)} : ∀ {f g : Nat} {s : Sr}, endsS m r f s → endsS m r g s → f = g
  | 0, 0, _, _, _ => rfl
  | 0, g + 1, s, h, h' => absurd h h'.1
  | f + 1, 0, s, h, h' => absurd h' h.1
  | f + 1, g + 1, s, h, h' => by rw [ends_uniq h.2.2 h'.2.2]
theorem lenS_eq {m : Nat} {r : List (List D)} {f : Nat} {s : Sr} (h : endsS m r f s) : lenS m r s = f := ends_uniq (Classical.epsilon_spec (p := fun f => endsS m r f s) ⟨f, h⟩) h
theorem resS_eq {m : Nat} {r : List (List D)} {f : Nat} {s : Sr} (h : endsS m r f s) : resS m r s = runSr r f s := by unfold resS; rw [lenS_eq h]
theorem halt_zero {m : Nat} {r : List (List D)} {s : Sr} (hk : s.k = 0) : resS m r s = s.o ∧ lenS m r s = 0 := by
  have : endsS m r 0 s := hk
  exact ⟨resS_eq this, lenS_eq this⟩
theorem halt_step {m : Nat} {r : List (List D)} {s : Sr} (h : haltS m r s) (hk : s.k ≠ 0) : needS m r s ∧ haltS m r (stepS r s) ∧ resS m r s = resS m r (stepS r s) ∧ lenS m r (stepS r s) < lenS m r s ∧ lenS m r s < 9223372036854775808 := by
  obtain ⟨f, hf, he⟩ := h
  cases f with
  | zero => exact absurd he hk
  | succ f =>
    have he' := he
    obtain ⟨-, h1, h2⟩ := he
    exact ⟨h1, ⟨f, by omega, h2⟩, by rw [resS_eq he', resS_eq h2]; rfl, by rw [lenS_eq he', lenS_eq h2]; omega, by rw [lenS_eq he']; exact hf⟩
theorem next_mem {r : List (List D)} {v t : Int} : ∀ (k i : Nat) {e : List D}, e ∈ nextF r v t i k → ∃ j, i ≤ j ∧ j < i + k ∧ ix e 0 = ix (r.getD j []) 1 ∧ ix (r.getD j []) 0 = v ∧ ix e 1 = entW (r.getD j []) t + ix (r.getD j []) 2
  | 0, _, _, h => by cases h
  | k + 1, i, e, h => by
    simp only [nextF] at h
    split at h
    · rename_i hc
      rcases List.mem_cons.1 h with rfl | h
      · exact ⟨i, Nat.le_refl _, by omega, rfl, hc, rfl⟩
      · obtain ⟨j, h1, h2, h3⟩ := next_mem k (i + 1) h
        exact ⟨j, by omega, by omega, h3⟩
    · obtain ⟨j, h1, h2, h3⟩ := next_mem k (i + 1) h
      exact ⟨j, by omega, by omega, h3⟩
theorem next_len {r : List (List D)} {v t : Int} : ∀ (k i : Nat), (nextF r v t i k).length ≤ k
  | 0, _ => Nat.le_refl _
  | k + 1, i => by
    simp only [nextF]
    have := next_len (r := r) (v := v) (t := t) k (i + 1)
    split
    · simp only [List.length_cons]; omega
    · omega
theorem ok73_9 (n : Nat) : LoopSim C (n + 4) 73 (loopOf C.P 73 9) (mkL l73_9 G73_9) := by
  refine loop_ofR hC (sp := sp73) (lp := lp73) (sw := sw73) (rg := rg73) ⟨ok123 (n + 3), trivial⟩ ⟨ok93 (n + 1), ok74 (n + 3), ok127 n, trivial⟩ 0 [] [14] (by kernel_rfl) rfl (by kernel_rfl) (by kernel_rfl) (fun k hk => by cases hk)
    (fun k hk L hL => by simp at hk; subst hk; cases hL; exact ok73_14 n) (by kernel_rfl) (fun ds => lenS (ds.getD 2 default).I.toNat (ds.getD 1 default).L (mkSr (ds.getD 3 default) (ds.getD 4 default) (ds.getD 5 default))) fun ds rr h => ?_
  unfold G73_9 at h
  split at h
  · rename_i a r m o k q
    obtain ⟨hp, h⟩ := need_some h
    rw [yes_iff] at hp
    have hlt : lenS m.I.toNat r.L (mkSr o k q) < 9223372036854775808 := by
      by_cases hk : (mkSr o k q).k = 0
      · rw [(halt_zero hk).2]; omega
      · exact (halt_step hp hk).2.2.2.2
    refine ⟨by rw [fuelC]; exact Nat.lt_trans hlt (by omega), ?_⟩
    rw [show roundTK C (mkTabR sp73 lp73 sw73 rg73) 73 (loopOf C.P 73 9) 0 l73_9 [a, r, m, o, k, q] = _ from t73_9 a r m o k q]
    simp only [Int.toNat_natCast, rg_def]
    by_cases hk : k.I.toNat = 0
    · rw [(halt_zero (m := m.I.toNat) (r := r.L) (s := mkSr o k q) hk).1] at h
      refine rd_dec (by omega) (rd_neg (by rw [hk]; simp) (rd_out h))
    · obtain ⟨hN, h1, h2, h3, -⟩ := halt_step hp hk
      obtain ⟨n1, n2, n3, n4, n5, n6, n7, n8⟩ := hN
      rw [h2] at h
      generalize hS : mkSr o k q = S at *
      have hSk : S.k = k.I.toNat := by rw [← hS]; rfl
      have hSq : S.q = q.L := by rw [← hS]; rfl
      have hSo : S.o = o.L := by rw [← hS]; rfl
      have hV : ix ((popR q.L k.I.toNat).getD (k.I.toNat - 1) []) 0 = takeV S := by unfold takeV; rw [hSk, hSq]
      have hT : ix ((popR q.L k.I.toNat).getD (k.I.toNat - 1) []) 1 = takeT S := by unfold takeT; rw [hSk, hSq]
      simp only [hV, hT]
      rw [hSq, hSk] at n1
      rw [hSk] at n2
      rw [hSo] at n3
      have hlt1 : (List.take k.I.toNat q.L).length = k.I.toNat := by rw [List.length_take]; omega
      refine rd_dec n1 (rd_pos (by rw [hlt1]; omega) (rd_yes ⟨by omega, n1, by omega⟩ (rd_dec n4 (rd_dec (by omega) (rd_if (fun c => ?_) fun c => ?_)))))
      · have hst : stepS r.L S = mkSr (D.l o.L) (D.i ((k.I.toNat - 1 : Nat) : Int)) (D.l (popR q.L k.I.toNat)) := by
          unfold stepS
          rw [if_pos (by rw [hSo]; exact c), hSo, hSk, hSq]
          rfl
        refine rd_again ((need_yes (by rw [← hst]; exact h1)).trans ?_) (by
          show lenS m.I.toNat r.L (mkSr (D.l o.L) (D.i ((k.I.toNat - 1 : Nat) : Int)) (D.l (popR q.L k.I.toNat))) < lenS m.I.toNat r.L (mkSr o k q)
          rw [← hst, hS]; exact h3)
        rw [← hst]
        exact h
      · have hst : stepS r.L S = relF (nextF r.L (takeV S) (takeT S) 0 r.L.length) (mkSr (D.l o.L) (D.i ((k.I.toNat - 1 : Nat) : Int)) (D.l (popR q.L k.I.toNat))) := by
          unfold stepS
          rw [if_neg (by rw [hSo]; exact c), hSo, hSk, hSq]
          rfl
        have hnl := next_len (r := r.L) (v := takeV S) (t := takeT S) r.L.length 0
        refine rd_yes ⟨n6, n5⟩ (rd_yes ⟨n3, by rw [len_pop]; omega, by omega, fun e he => ?_⟩ ?_)
        · obtain ⟨j, -, hj, e1, -⟩ := next_mem _ _ he
          rw [e1]
          exact n8 j (by omega)
        · have hmk : ∀ s : Sr, mkSr (D.l s.o) (D.i (s.k : Int)) (D.l s.q) = s := fun s => by simp only [mkSr, I_i, L_l, Int.toNat_natCast]
          rw [← hst]
          refine rd_again ((need_yes (by simp only [I_i, L_l, Int.toNat_natCast, hmk]; exact h1)).trans ?_) (by
            show lenS m.I.toNat r.L (mkSr (D.l (stepS r.L S).o) (D.i ((stepS r.L S).k : Int)) (D.l (stepS r.L S).q)) < lenS m.I.toNat r.L (mkSr o k q)
            rw [hmk, hS]; exact h3)
          simp only [I_i, L_l, Int.toNat_natCast, hmk]
          exact h
  · cases h
theorem fill_len (v : Int) : ∀ (k i : Nat) (l : List (List D)), (fillF v i k l).length = l.length
  | 0, _, _ => rfl
  | k + 1, i, l => by simp only [fillF]; rw [fill_len v k, len_rs]
theorem fill_app (v : Int) : ∀ (k : Nat) (a : List (List D)), fillF v a.length k (a ++ List.replicate k [.i 0]) = a ++ List.replicate k [.i v]
  | 0, a => by simp [fillF]
  | k + 1, a => by
    simp only [fillF]
    have : rs (a ++ List.replicate (k + 1) [D.i 0]) a.length v = (a ++ [[D.i v]]) ++ List.replicate k [D.i 0] := by
      unfold rs
      rw [List.replicate_succ, List.set_append_right _ _ (Nat.le_refl _), Nat.sub_self, List.set_cons_zero, List.append_assoc]
      rfl
    rw [this]
    have h2 := fill_app v k (a ++ [[D.i v]])
    rw [List.length_append, List.length_singleton] at h2
    rw [h2, List.replicate_succ, List.append_assoc]
    rfl
theorem fill_all (v : Int) (n : Nat) : fillF v 0 n (List.replicate n [.i 0]) = List.replicate n [.i v] := by
  have := fill_app v n []
  simpa using this
theorem ok73 (n : Nat) : FnOK C (n + 5) 73 (mkF s73 G73) := by
  have hby : Try.prog.types[3].bytes = 8 := by kernel_rfl
  refine fn_ofR hC (sp := sp73) (lp := lp73) (sw := sw73) (rg := rg73) ⟨ok123 (n + 3), trivial⟩ ⟨ok93 (n + 1), ok74 (n + 3), ok127 n, trivial⟩ (by kernel_rfl) [3, 9] [] (by kernel_rfl) (by kernel_rfl) (by kernel_rfl) rfl (fun k hk L hL => by
    simp at hk; rcases hk with rfl | rfl <;> cases hL
    · exact ok73_3 n
    · exact ok73_9 n) (fun k hk => by cases hk) fun ds r h => ?_
  unfold G73 at h
  split at h
  · rename_i m v t a r'
    obtain ⟨hp, h⟩ := need_some h
    rw [yes_iff] at hp
    obtain ⟨h0, h1, h2, h3, h4⟩ := hp
    refine (congrArg T.run (t73 m v t a r')).trans ?_
    have hz : (0 : Int).toNat = 0 := rfl
    simp only [List.length_replicate, Int.toNat_natCast, hz, Nat.sub_zero, fill_all, upd1, rs_def]
    have hm : (m.I.toNat : Int) = m.I := by omega
    refine go_need (by rw [hby]; simp; omega) (go_yes ⟨trivial, Nat.le_refl _, by omega, by omega, by omega⟩ (go_dec (by omega) (go_need (by simp; omega) (go_yes h4 ?_))))
    rw [hm]
    exact h
  · cases h
theorem run_len {r : List (List D)} : ∀ (f : Nat) (s : Sr), (runSr r f s).length = s.o.length
  | 0, _ => rfl
  | f + 1, s => by
    simp only [runSr]
    rw [run_len f]
    unfold stepS
    split
    · rfl
    · exact rel_len _ _
theorem none_len : ∀ (k i : Nat) (l : List (List D)), (noneF i k l).length = l.length
  | 0, _, _ => rfl
  | k + 1, i, l => by
    simp only [noneF]
    rw [none_len k]
    split
    · exact len_rs _ _ _
    · rfl
theorem ok46_3 (n : Nat) : LoopSim C (n + 5) 46 (loopOf C.P 46 3) (mkL l46_3 G46_3) := by
  refine loop_ofK hC (sp := sp46) (lp := lp46) (sw := sw46) ⟨ok73 n, trivial⟩ ⟨ok74 (n + 4), trivial⟩ 0 [] (by kernel_rfl) rfl (fun k hk => by cases hk) (by kernel_rfl) (fun ds => ((ds.getD 2 default).I - (ds.getD 3 default).I).toNat) fun ds rr h => ?_
  unfold G46_3 at h
  split at h
  · rename_i m m2 k i l
    obtain ⟨hp, h⟩ := need_some h
    rw [yes_iff] at hp
    obtain ⟨h1, h2, h3, hi0, hi1, h4⟩ := hp
    refine ⟨by rw [fuelC]; simp; omega, ?_⟩
    rw [show roundTK C (mkTab sp46 lp46 sw46) 46 (loopOf C.P 46 3) 0 l46_3 [m, m2, k, i, l] = _ from t46_3 m m2 k i l]
    obtain ⟨j, hj⟩ : ∃ j : Nat, i.I = j := ⟨i.I.toNat, by omega⟩
    simp only [hj, h1, h2, Int.toNat_natCast, upd1, rs_def, rg_def] at h hi0 hi1 h4 ⊢
    refine rd_if (fun hlt => ?_) fun hge => ?_
    · rw [wrap_succ (by omega)]
      rw [show m.I.toNat - j = (m.I.toNat - (j + 1)) + 1 by omega] at h
      simp only [noneF] at h
      have hmu : ((m.I.toNat : Int) - ((j + 1 : Nat) : Int)).toNat < (k.I - i.I).toNat := by rw [hj, h1]; omega
      refine rd_dec (by omega) (rd_dec (by omega) (rd_ite (fun c => ?_) fun c => ?_))
      · rw [beq_iff_eq] at c
        rw [if_pos c] at h
        refine rd_dec (by omega) (rd_dec (by omega) (rd_again ((need_yes ⟨by simp only [I_i, Int.toNat_natCast], by simp only [I_i, Int.toNat_natCast], by simp only [I_i, L_l, Int.toNat_natCast, len_rs]; exact h3, by simp only [I_i]; omega, by simp only [I_i]; omega, by simp only [I_i]; omega⟩).trans ?_) hmu))
        simp only [I_i, L_l, Int.toNat_natCast]
        exact h
      · rw [beq_eq_false_iff_ne] at c
        rw [if_neg c] at h
        refine rd_again ((need_yes ⟨by simp only [I_i, Int.toNat_natCast], by simp only [I_i, Int.toNat_natCast], by simp only [I_i, L_l, Int.toNat_natCast]; exact h3, by simp only [I_i]; omega, by simp only [I_i]; omega, by simp only [I_i]; omega⟩).trans ?_) hmu
        simp only [I_i, L_l, Int.toNat_natCast]
        exact h
    · rw [show m.I.toNat - j = 0 by omega] at h
      exact rd_out h
  · cases h
theorem len_start (n v t : Int) : (startS n v t).o.length = n.toNat := by simp [startS, len_rs]
theorem res_len {m : Nat} {r : List (List D)} {s : Sr} : (resS m r s).length = s.o.length := run_len _ _
theorem ok46 (n : Nat) : FnOK C (n + 6) 46 (mkF s46 G46) := by
  refine fn_ofS hC (sp := sp46) (lp := lp46) (sw := sw46) ⟨ok73 n, trivial⟩ ⟨ok74 (n + 4), trivial⟩ (by kernel_rfl) [3] (by kernel_rfl) (by kernel_rfl) (fun k hk L hL => by
    simp at hk; subst hk; cases hL; exact ok46_3 n) fun ds r h => ?_
  unfold G46 at h
  split at h
  · rename_i m r' v t
    obtain ⟨hp, h⟩ := need_some h
    rw [yes_iff] at hp
    obtain ⟨h0, h1, h2, h3, h4⟩ := hp
    refine (congrArg T.run (t46 m r' v t)).trans ?_
    have hz : (0 : Int).toNat = 0 := rfl
    simp only [Int.toNat_natCast, hz, Nat.sub_zero]
    have hm : (m.I.toNat : Int) = m.I := by omega
    refine go_yes ⟨h0, h1, h2, h3, h4⟩ (go_yes ⟨trivial, trivial, by rw [res_len, len_start]; exact Nat.le_refl _, by omega, by omega, by omega⟩ ?_)
    rw [hm]
    exact h
  · cases h
end Go.Proofs.Ytgmefblkmidglaa
