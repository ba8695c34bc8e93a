/-
  Shapes of arguments, results and loops. Written by program.
  What the functions of latest timetables compute.
  Tables. Written by program.
  Lowering times until all links are kept is raising their opposites in the net turned round: plain facts.
  What the rounds and the functions come to. Written by program.
  The functions of latest timetables compute what their words say.
-/
import Derived.Test.YtipbcpobnciccaaTimGH
import Derived.Test.YtipbcpobnciccaaTimGI
namespace Go.Proofs.Ytipbcpobnciccaa
open Go.Lite
def s82 : Sig := ⟨[.eptr [.k (.int .i64), .k (.ro [.int .i64, .int .i64, .int .i64])], .k (.int .i64)], [(.sl 0 1, [.row [.int .i64]])]⟩
def l82_3 : LSig := mkLS [0, 1, 5, 17, 18] [(61, [(0, .eptr [.k (.int .i64), .k (.ro [.int .i64, .int .i64, .int .i64])]), (1, .k (.int .i64)), (5, .sl 0 1), (17, .k (.int .i64)), (18, .k (.int .i64))], [.row [.int .i64]])] [(.exit 0, [0, 5], [(61, [(0, .eptr [.k (.int .i64), .k (.ro [.int .i64, .int .i64, .int .i64])]), (5, .sl 0 1)], [.row [.int .i64]])])]
def l82_8 : LSig := mkLS [0, 5] [(61, [(0, .eptr [.k (.int .i64), .k (.ro [.int .i64, .int .i64, .int .i64])]), (5, .sl 0 1)], [.row [.int .i64]])] [(.exit 2, [5], [(61, [(5, .sl 0 1)], [.row [.int .i64]])])]
def l82_10 : LSig := mkLS [0, 5, 7, 31, 32, 33] [(61, [(0, .eptr [.k (.int .i64), .k (.ro [.int .i64, .int .i64, .int .i64])]), (5, .sl 0 1), (7, .k .bool), (31, .k (.ro [.int .i64, .int .i64, .int .i64])), (32, .k (.int .i64)), (33, .k (.int .i64))], [.row [.int .i64]])] [(.exit 4, [0, 5, 7], [(61, [(0, .eptr [.k (.int .i64), .k (.ro [.int .i64, .int .i64, .int .i64])]), (5, .sl 0 1), (7, .k .bool)], [.row [.int .i64]])])]
def s81 : Sig := ⟨[.k (.ro [.int .i64])], [(.k (.int .i64), [])]⟩
def l81_5 : LSig := mkLS [0, 3, 4] [(25, [(0, .k (.ro [.int .i64])), (3, .k (.int .i64)), (4, .k (.int .i64))], [])] [(.exit 0, [3], [(25, [(3, .k (.int .i64))], [])])]
def s65 : Sig := ⟨[.k (.int .i64), .k (.ro [.int .i64, .int .i64, .int .i64]), .k (.int .i64)], [(.tup [.nils, .nils, .k (.int .i64)], []), (.tup [.sl 0 1, .sl 1 1, .k (.int .i64)], [.row [.int .i64], .row [.int .i64]])]⟩
def s33 : Sig := ⟨[.k (.int .i64), .k (.ro [.int .i64, .int .i64, .int .i64]), .k (.int .i64)], [(.tup [.nils, .k (.int .i64)], []), (.tup [.sl 0 1, .k (.int .i64)], [.row [.int .i64]])]⟩
def s39 : Sig := ⟨[.k (.int .i64), .k (.ro [.int .i64, .int .i64, .int .i64]), .k (.int .i64)], [(.tup [.nils, .k (.int .i64)], []), (.tup [.sl 0 1, .k (.int .i64)], [.row [.int .i64]])]⟩
def l39_3 : LSig := mkLS [8, 9, 10, 21, 22] [(38, [(8, .nils), (9, .nils), (10, .k (.int .i64)), (21, .k (.int .i64)), (22, .k (.int .i64))], []), (38, [(8, .sl 0 1), (9, .sl 1 1), (10, .k (.int .i64)), (21, .k (.int .i64)), (22, .k (.int .i64))], [.row [.int .i64], .row [.int .i64]])] [(.exit 0, [9, 10], [(38, [(9, .nils), (10, .k (.int .i64))], []), (38, [(9, .sl 0 1), (10, .k (.int .i64))], [.row [.int .i64]])])]
def s40 : Sig := ⟨[.k (.int .i64), .k (.ro [.int .i64, .int .i64, .int .i64]), .k (.int .i64)], [(.tup [.nils, .k .bool], []), (.tup [.sl 0 1, .k .bool], [.row [.int .i64]])]⟩
def l40_4 : LSig := mkLS [0, 2, 8, 9, 10] [(76, [(0, .k (.int .i64)), (2, .k (.int .i64)), (8, .sl 0 3), (9, .sl 1 1), (10, .k (.int .i64))], [.row [.int .i64, .int .i64, .int .i64], .row [.int .i64]])] [(.exit 0, [0, 8, 9], [(76, [(0, .k (.int .i64)), (8, .sl 0 3), (9, .sl 1 1)], [.row [.int .i64, .int .i64, .int .i64], .row [.int .i64]])])]
def l40_8 : LSig := mkLS [0, 8, 9, 11] [(76, [(0, .k (.int .i64)), (8, .sl 0 3), (9, .sl 1 1), (11, .k (.int .i64))], [.row [.int .i64, .int .i64, .int .i64], .row [.int .i64]])] [(.exit 2, [], [(76, [], [])]), (.ret, [6, 7], [(76, [(6, .sl 0 1), (7, .k .bool)], [.row [.int .i64]])])]
def l40_12 : LSig := mkLS [0, 8, 9, 11, 12, 13] [(76, [(0, .k (.int .i64)), (8, .sl 0 3), (9, .sl 1 1), (11, .k (.int .i64)), (12, .k .bool), (13, .k (.int .i64))], [.row [.int .i64, .int .i64, .int .i64], .row [.int .i64]])] [(.exit 4, [0, 8, 9, 11, 12], [(76, [(0, .k (.int .i64)), (8, .sl 0 3), (9, .sl 1 1), (11, .k (.int .i64)), (12, .k .bool)], [.row [.int .i64, .int .i64, .int .i64], .row [.int .i64]])])]
def s12 : Sig := ⟨[.k (.int .i64), .k (.ro [.int .i64, .int .i64, .int .i64]), .k (.int .i64)], [(.k .bool, [])]⟩
def l12_14 : LSig := mkLS [0, 2, 7, 9, 11, 13, 15] [(156, [(0, .k (.int .i64)), (2, .k (.int .i64)), (7, .sl 0 1), (9, .sl 1 1), (11, .sl 2 1), (13, .sl 3 1), (15, .k (.int .i64))], [.row [.int .i64], .row [.int .i64], .row [.int .i64], .row [.int .i64]])] [(.exit 0, [], [(156, [], [])]), (.ret, [6], [(156, [(6, .k .bool)], [])])]
end Go.Proofs.Ytipbcpobnciccaa

namespace Go.Proofs.Ytipbcpobnciccaa
open Go.Lite
noncomputable section
abbrev LSt := List (List D) × Bool
def stepL (l : List (List D)) (i : Nat) (s : LSt) : LSt :=
  if rg s.1 (lkT l i).toNat - lkW l i < rg s.1 (lkF l i).toNat then (rs s.1 (lkF l i).toNat (rg s.1 (lkT l i).toNat - lkW l i), true) else s
def passL (l : List (List D)) : Nat → Nat → LSt → LSt
  | _, 0, s => s
  | i, k + 1, s => passL l (i + 1) k (stepL l i s)
/-- Rounds: what they end with, and whether something was changed in the last one. -/
def roundsL (l : List (List D)) : Nat → List (List D) → LSt
  | 0, t => (t, true)
  | k + 1, t => if (passL l 0 l.length (t, false)).2 = true then roundsL l k (passL l 0 l.length (t, false)).1 else passL l 0 l.length (t, false)
/-- How many rounds change something. -/
def countL (l : List (List D)) : Nat → List (List D) → Nat
  | 0, _ => 0
  | k + 1, t => if (passL l 0 l.length (t, false)).2 = true then countL l k (passL l 0 l.length (t, false)).1 + 1 else 0
def lastR (n last : Int) : List (List D) := [.i 0] :: List.replicate (n.toNat - 1) [.i last]
def fillR (last : Int) : Nat → Nat → List (List D) → List (List D)
  | _, 0, t => t
  | i, k + 1, t => fillR last (i + 1) k (rs t i last)
/-- From an index on, but not the first one. -/
def fillP (x : Int) (i n : Nat) (t : List (List D)) : List (List D) := fillR x (if i = 0 then 1 else i) (n - (if i = 0 then 1 else i)) t
def latR (n : Int) (l : List (List D)) (last : Int) : LSt := roundsL l (n.toNat + 1) (lastR n last)
def maxR (l : List (List D)) : Nat → Nat → Int → Int
  | _, 0, m => m
  | i, k + 1, m => maxR l (i + 1) k (max m (rg l i))
def maxL (l : List (List D)) : Int := maxR l 1 (l.length - 1) (rg l 0)
def subR (f : List (List D)) : Nat → Nat → List (List D) → List (List D)
  | _, 0, t => t
  | i, k + 1, t => subR f (i + 1) k (rs t i (rg t i - rg f i))
/-- The rounds end. -/
def endsL (l t : List (List D)) (K : Nat) : Prop := (roundsL l K t).2 = false ∧ K ≤ 501 ∧ room t (l.length * K)

/-! ### The functions -/
def G82 (ds : List D) : T (List D) := match ds with
  | [n, l, x] => .need (yes (goodL n.I l.L ∧ 0 ≤ x.I ∧ x.I ≤ 1000000000 ∧ (latR n.I l.L x.I).2 = false)) (.leaf [.i n.I, .l (latR n.I l.L x.I).1])
  | _ => .fail
def G82_3 (ds : List D) : T (Ex × List D) := match ds with
  | [n, l, x, q, k, i, t] => .need (yes (1 ≤ n.I ∧ n.I ≤ 500 ∧ q.I = n.I ∧ k.I = n.I ∧ 0 ≤ i.I ∧ i.I ≤ n.I ∧ (t.L.length : Int) = n.I))
      (.leaf (.exit 0, [.i n.I, .l l.L, .i n.I, .l (fillP x.I i.I.toNat n.I.toNat t.L)]))
  | _ => .fail
def G82_8 (ds : List D) : T (Ex × List D) := match ds with
  | [n, l, q, t] => .need (yes (goodL n.I l.L ∧ q.I = n.I ∧ (t.L.length : Int) = n.I ∧ ∃ K, endsL l.L t.L K)) (.leaf (.exit 2, [.i q.I, .l (roundsL l.L 501 t.L).1]))
  | _ => .fail
def G82_10 (ds : List D) : T (Ex × List D) := match ds with
  | [n, l, q, c, l', k, i, t] => .need (yes (goodL n.I l.L ∧ l'.L = l.L ∧ k.I = l.L.length ∧ q.I = n.I ∧ (t.L.length : Int) = n.I ∧ 0 ≤ i.I ∧ i.I ≤ l.L.length ∧ room t.L (l.L.length - i.I)))
      (.leaf (.exit 4, [.i n.I, .l l.L, .i n.I, .b (passL l.L i.I.toNat (l.L.length - i.I.toNat) (t.L, c.B)).2, .l (passL l.L i.I.toNat (l.L.length - i.I.toNat) (t.L, c.B)).1]))
  | _ => .fail
def G81 (ds : List D) : T (List D) := match ds with
  | [l] => .need (yes (0 < l.L.length ∧ l.L.length < big)) (.leaf [.i (maxL l.L)])
  | _ => .fail
def G81_5 (ds : List D) : T (Ex × List D) := match ds with
  | [l, m, i] => .need (yes (l.L.length < big ∧ 0 ≤ i.I ∧ i.I ≤ l.L.length)) (.leaf (.exit 0, [.i (maxR l.L i.I.toNat (l.L.length - i.I.toNat) m.I)]))
  | _ => .fail
/-- There are earliest times, not later than some time. -/
def bothB (n : Int) (l : List (List D)) (x : Int) : Bool := decide ((pushR n (allL n l) (zeros n)).2.2 < 0) && decide (maxL (pushR n (allL n l) (zeros n)).1 ≤ x)
def G65 (ds : List D) : T (List D) := match ds with
  | [n, l, x] => .need (yes (l.L.length < big)) (.ite (netOk n.I l.L && Lite.within x.I 0 1000000000)
      (.ite (bothB n.I l.L x.I) (.leaf [.i 1, .i n.I, .i n.I, .i 0, .l (pushR n.I (allL n.I l.L) (zeros n.I)).1, .l (latR n.I (allL n.I l.L) x.I).1]) (.leaf [.i 0, .i 5])) (.leaf [.i 0, .i 2]))
  | _ => .fail
def G33 (ds : List D) : T (List D) := match ds with
  | [n, l, x] => .need (yes (l.L.length < big)) (.ite (netOk n.I l.L && Lite.within x.I 0 1000000000)
      (.ite (bothB n.I l.L x.I) (.leaf [.i 1, .i n.I, .i 0, .l (latR n.I (allL n.I l.L) x.I).1]) (.leaf [.i 0, .i 5])) (.leaf [.i 0, .i 2]))
  | _ => .fail
def G39 (ds : List D) : T (List D) := match ds with
  | [n, l, x] => .need (yes (l.L.length < big)) (.ite (netOk n.I l.L && Lite.within x.I 0 1000000000)
      (.ite (bothB n.I l.L x.I) (.leaf [.i 1, .i n.I, .i 0, .l (subR (pushR n.I (allL n.I l.L) (zeros n.I)).1 0 n.I.toNat (latR n.I (allL n.I l.L) x.I).1)]) (.leaf [.i 0, .i 5])) (.leaf [.i 0, .i 2]))
  | _ => .fail
def G39_3 (ds : List D) : T (Ex × List D) := match ds with
  | [j, q, p, e, k, i, f, t] => .need (yes (j.I = 1 ∧ q.I = f.L.length ∧ p.I = t.L.length ∧ k.I = t.L.length ∧ f.L.length = t.L.length ∧ t.L.length ≤ 500 ∧ 0 ≤ i.I ∧ i.I ≤ t.L.length ∧ bndR f.L 1099511627776 ∧ ∀ j : Nat, i.I ≤ j → -1099511627776 ≤ rg t.L j ∧ rg t.L j ≤ 1099511627776))
      (.leaf (.exit 0, [.i 1, .i t.L.length, .i e.I, .l (subR f.L i.I.toNat (t.L.length - i.I.toNat) t.L)]))
  | [j, e, k, i] => .need (yes (j.I = 0 ∧ k.I = 0 ∧ i.I = 0)) (.leaf (.exit 0, [.i 0, .i e.I]))
  | _ => .fail
def G40 (ds : List D) : T (List D) := match ds with
  | [n, l, x] => .need (yes (netP n.I l.L ∧ 0 ≤ x.I ∧ x.I ≤ 1000000000)) (.ite (latR n.I (allL n.I l.L) x.I).2 (.leaf [.i 0, .b false]) (.leaf [.i 1, .i n.I, .b (rg (latR n.I (allL n.I l.L) x.I).1 0 == 0), .l (latR n.I (allL n.I l.L) x.I).1]))
  | _ => .fail
def G40_4 (ds : List D) : T (Ex × List D) := match ds with
  | [n, x, m, q, i, a, t] => .need (yes (1 ≤ n.I ∧ n.I ≤ 500 ∧ 1 ≤ i.I ∧ i.I ≤ n.I ∧ q.I = n.I ∧ (t.L.length : Int) = n.I ∧ 0 ≤ m.I)) (.leaf (.exit 0, [.i n.I, .i m.I, .i n.I, .l a.L, .l (fillR x.I i.I.toNat (n.I - i.I).toNat t.L)]))
  | _ => .fail
def G40_8 (ds : List D) : T (Ex × List D) := match ds with
  | [n, m, q, i, a, t] => .need (yes (goodL n.I a.L ∧ m.I = a.L.length ∧ q.I = n.I ∧ (t.L.length : Int) = n.I ∧ 0 ≤ i.I ∧ i.I ≤ n.I + 1 ∧ room t.L (a.L.length * (n.I + 1 - i.I))))
      (.ite (roundsL a.L (n.I + 1 - i.I).toNat t.L).2 (.leaf (.exit 2, [])) (.leaf (.ret, [.i n.I, .b (rg (roundsL a.L (n.I + 1 - i.I).toNat t.L).1 0 == 0), .l (roundsL a.L (n.I + 1 - i.I).toNat t.L).1])))
  | _ => .fail
def G40_12 (ds : List D) : T (Ex × List D) := match ds with
  | [n, m, q, r, s, i, a, t] => .need (yes (goodL n.I a.L ∧ m.I = a.L.length ∧ q.I = n.I ∧ (t.L.length : Int) = n.I ∧ 0 ≤ i.I ∧ i.I ≤ a.L.length ∧ room t.L (a.L.length - i.I)))
      (.leaf (.exit 4, [.i n.I, .i a.L.length, .i n.I, .i r.I, .b (!(passL a.L i.I.toNat (a.L.length - i.I.toNat) (t.L, !s.B)).2), .l a.L, .l (passL a.L i.I.toNat (a.L.length - i.I.toNat) (t.L, !s.B)).1]))
  | _ => .fail
end
end Go.Proofs.Ytipbcpobnciccaa

namespace Go.Proofs.Ytipbcpobnciccaa
open Go.Lite
noncomputable def sp82 : SpL := []
noncomputable def lp82 : LpL := [(3, mkL l82_3 G82_3), (8, mkL l82_8 G82_8), (10, mkL l82_10 G82_10)]
noncomputable def sw82 : SwL := []
noncomputable def tab82 : Tab := mkTab sp82 lp82 sw82
noncomputable def sp81 : SpL := []
noncomputable def lp81 : LpL := [(5, mkL l81_5 G81_5)]
noncomputable def sw81 : SwL := []
noncomputable def tab81 : Tab := mkTab sp81 lp81 sw81
noncomputable def sp65 : SpL := [(47, mkF s47 G47), (48, mkF s48 G48), (49, mkF s49 G49), (50, mkF s50 G50), (81, mkF s81 G81), (82, mkF s82 G82)]
noncomputable def lp65 : LpL := []
noncomputable def sw65 : SwL := []
noncomputable def tab65 : Tab := mkTab sp65 lp65 sw65
noncomputable def sp33 : SpL := [(65, mkF s65 G65)]
noncomputable def lp33 : LpL := []
noncomputable def sw33 : SwL := []
noncomputable def tab33 : Tab := mkTab sp33 lp33 sw33
noncomputable def sp39 : SpL := [(65, mkF s65 G65)]
noncomputable def lp39 : LpL := [(3, mkL l39_3 G39_3)]
noncomputable def sw39 : SwL := []
noncomputable def tab39 : Tab := mkTab sp39 lp39 sw39
noncomputable def sp40 : SpL := [(55, mkF s55 G55)]
noncomputable def lp40 : LpL := [(4, mkL l40_4 G40_4), (8, mkL l40_8 G40_8), (12, mkL l40_12 G40_12)]
noncomputable def sw40 : SwL := []
noncomputable def tab40 : Tab := mkTab sp40 lp40 sw40
end Go.Proofs.Ytipbcpobnciccaa

namespace Go.Proofs.Ytipbcpobnciccaa
open Go.Lite
theorem len_stepL (l : List (List D)) (i : Nat) (s : LSt) : (stepL l i s).1.length = s.1.length := by
  unfold stepL
  split
  · exact len_rs _ _ _
  · rfl
theorem len_passL (l : List (List D)) : ∀ (k i : Nat) (s : LSt), (passL l i k s).1.length = s.1.length
  | 0, _, _ => rfl
  | k + 1, i, s => (len_passL l k (i + 1) _).trans (len_stepL l i s)
theorem len_roundsL (l : List (List D)) : ∀ (k : Nat) (t : List (List D)), (roundsL l k t).1.length = t.length
  | 0, _ => rfl
  | k + 1, t => by
    simp only [roundsL]
    split
    · exact (len_roundsL l k _).trans (len_passL l _ _ _)
    · exact len_passL l _ _ _
theorem room_stepL {n : Int} {l : List (List D)} (hl : goodL n l) {i : Nat} (hi : i < l.length) {s : LSt} (hs : (s.1.length : Int) = n) {k : Int} (h : room s.1 (k + 1)) : room (stepL l i s).1 k := by
  obtain ⟨M, h1, h2⟩ := h
  obtain ⟨h3, h4, h5⟩ := hl.2.2.2 i hi
  refine ⟨M + 1000000, fun j => ?_, by omega⟩
  have hj := h1 j
  unfold stepL
  split
  · simp only
    rw [rg_rs (by omega)]
    split
    · have := h1 (lkT l i).toNat; omega
    · omega
  · omega
theorem room_passL {n : Int} {l : List (List D)} (hl : goodL n l) : ∀ (k i : Nat), i + k ≤ l.length → ∀ {s : LSt}, (s.1.length : Int) = n → ∀ {q : Int}, room s.1 (q + k) → room (passL l i k s).1 q
  | 0, _, _, s, _, q, h => by
    have e : q + ((0 : Nat) : Int) = q := by omega
    rw [e] at h; exact h
  | k + 1, i, hk, s, hs, q, h => by
    refine room_passL hl k (i + 1) (by omega) (by rw [len_stepL l i s]; exact hs) (room_stepL hl (by omega) hs ?_)
    have e : q + ((k + 1 : Nat) : Int) = q + k + 1 := by omega
    rw [e] at h; exact h
/-! ### Rows that are filled -/
theorem len_fillR (x : Int) : ∀ (k i : Nat) (t : List (List D)), (fillR x i k t).length = t.length
  | 0, _, _ => rfl
  | k + 1, i, _t => (len_fillR x k (i + 1) _).trans (len_rs _ _ _)
theorem fillR_app (x : Int) : ∀ (k : Nat) (a : List (List D)), fillR x a.length k (a ++ List.replicate k [.i 0]) = a ++ List.replicate k [.i x]
  | 0, a => rfl
  | k + 1, a => by
    have h := fillR_app x k (a ++ [[.i x]])
    simp only [List.length_append, List.length_singleton, List.append_assoc, List.singleton_append, ← List.replicate_succ] at h
    simp only [fillR]
    rw [← h]
    congr 1
    simp [rs, List.replicate_succ]
theorem fill_last {n x : Int} (hn : 1 ≤ n) : fillR x 1 (n - 1).toNat (zeros n) = lastR n x := by
  have h := fillR_app x (n.toNat - 1) [[.i 0]]
  unfold zeros lastR
  rw [show (n - 1).toNat = n.toNat - 1 by omega, show List.replicate n.toNat [D.i 0] = [[D.i 0]] ++ List.replicate (n.toNat - 1) [.i 0] by
    rw [List.singleton_append, ← List.replicate_succ, show n.toNat - 1 + 1 = n.toNat by omega]]
  exact h
theorem fillP_zero (x : Int) (n : Nat) (t : List (List D)) : fillP x 0 n t = fillP x 1 n t := rfl
theorem fillP_end (x : Int) {i n : Nat} (h : n ≤ i) (h0 : 1 ≤ n) (t : List (List D)) : fillP x i n t = t := by
  unfold fillP
  rw [if_neg (by omega), show n - i = 0 by omega]
  rfl
theorem fillP_step (x : Int) {i n : Nat} (h : i < n) (h0 : 0 < i) (t : List (List D)) : fillP x i n t = fillP x (i + 1) n (rs t i x) := by
  unfold fillP
  rw [if_neg (by omega), if_neg (by omega), show n - i = (n - (i + 1)) + 1 by omega]
  rfl
theorem fillP_last {n x : Int} (hn : 1 ≤ n) : fillP x 0 n.toNat (zeros n) = lastR n x := by
  rw [← fill_last hn]
  unfold fillP
  rw [if_pos rfl, show n.toNat - 1 = (n - 1).toNat by omega]
theorem len_lastR {n : Int} (hn : 1 ≤ n) (x : Int) : (lastR n x).length = n.toNat := by simp [lastR]; omega
theorem rg_last0 (n x : Int) : rg (lastR n x) 0 = 0 := rfl
theorem rg_lastS (n x : Int) (j : Nat) : rg (lastR n x) (j + 1) = if j < n.toNat - 1 then x else 0 := by
  have e : rg (lastR n x) (j + 1) = rg (List.replicate (n.toNat - 1) [.i x]) j := rfl
  rw [e]
  split
  · rename_i h; exact rg_rep h
  · rename_i h; exact rg_ge (by simp; omega)
theorem rg_last_le {n x : Int} (hx : 0 ≤ x) (j : Nat) : 0 ≤ rg (lastR n x) j ∧ rg (lastR n x) j ≤ x := by
  cases j with
  | zero => rw [rg_last0]; omega
  | succ j => rw [rg_lastS]; split <;> omega
/-! ### The net turned round -/
def revN (n : Int) (l : List (List D)) : Net := ⟨n.toNat, l.length, fun i => (lkT l i).toNat, fun i => (lkF l i).toNat, fun i => lkW l i⟩
theorem revN_ok {n : Int} {l : List (List D)} (h : goodL n l) : (revN n l).OK :=
  ⟨fun i hi => by have := (h.2.2.2 i hi).2.1; show (lkT l i).toNat < n.toNat; omega, fun i hi => by have := (h.2.2.2 i hi).1; show (lkF l i).toNat < n.toNat; omega⟩
theorem rev_kept {n : Int} {l : List (List D)} {p : Nat → Int} : (revN n l).kept (fun j => - p j) ↔ (netN n l).kept p := by
  constructor
  · intro h i hi
    have := h i hi
    simp only [revN] at this
    simp only [netN]
    omega
  · intro h i hi
    have := h i hi
    simp only [netN] at this
    simp only [revN]
    omega
structure SimL (n : Int) (s : LSt) (x : Rz) : Prop where
  l1 : s.1.length = n.toNat
  t : ∀ j, x.t j = - rg s.1 j
  r : 0 ≤ x.r ↔ s.2 = true
theorem sim_stepL {n : Int} {l : List (List D)} (hl : goodL n l) {i ρ : Nat} (hi : i < l.length) {s : LSt} {x : Rz} (h : SimL n s x) : SimL n (stepL l i s) ((revN n l).step ρ i x) := by
  obtain ⟨h1, h3, h5⟩ := h
  obtain ⟨f1, f2, f3⟩ := hl.2.2.2 i hi
  unfold stepL Net.step revN
  simp only [h3]
  by_cases hc : rg s.1 (lkT l i).toNat - lkW l i < rg s.1 (lkF l i).toNat
  · rw [if_pos hc, if_pos (by omega)]
    refine ⟨by simp only [len_rs]; exact h1, fun j => ?_, ?_⟩
    · simp only [upd]
      rw [rg_rs (by omega), h3]
      split <;> omega
    · simp only
      exact ⟨fun _ => trivial, fun _ => by omega⟩
  · rw [if_neg hc, if_neg (by omega)]
    exact ⟨h1, h3, h5⟩
theorem sim_passL {n : Int} {l : List (List D)} (hl : goodL n l) {ρ : Nat} : ∀ (k i : Nat), i + k ≤ l.length → ∀ {s : LSt} {x : Rz}, SimL n s x → SimL n (passL l i k s) ((revN n l).pass ρ i k x)
  | 0, _, _, _, _, h => h
  | k + 1, i, hk, _, _, h => sim_passL hl k (i + 1) (by omega) (sim_stepL hl (by omega) h)
theorem sim_roundsL {n : Int} {l : List (List D)} (hl : goodL n l) : ∀ (k ρ : Nat) {t : List (List D)} {x : Rz}, t.length = n.toNat → (∀ j, x.t j = - rg t j) → (k = 0 → 0 ≤ x.r) → SimL n (roundsL l k t) ((revN n l).rounds ρ k x)
  | 0, _, _, _, h1, h2, h3 => ⟨h1, h2, fun _ => rfl, fun _ => h3 rfl⟩
  | k + 1, ρ, t, x, h1, h2, _ => by
    have h := sim_passL hl (ρ := ρ) l.length 0 (by omega) (s := (t, false)) (x := { x with r := -1 }) ⟨h1, h2, fun h => by simp only at h; omega, fun h => by cases h⟩
    simp only [roundsL, Net.rounds]
    have e : ((revN n l).pass ρ 0 (revN n l).m { x with r := -1 }) = ((revN n l).pass ρ 0 l.length { x with r := -1 }) := rfl
    rw [e]
    by_cases hc : (passL l 0 l.length (t, false)).2 = true
    · have := h.r.2 hc
      rw [if_pos hc, if_neg (by omega)]
      exact sim_roundsL hl k (ρ + 1) h.l1 h.t (fun _ => this)
    · have : ¬ 0 ≤ ((revN n l).pass ρ 0 l.length { x with r := -1 }).r := fun hh => hc (h.r.1 hh)
      rw [if_neg hc, if_pos (by omega)]
      exact h
theorem sim_lat {n : Int} {l t : List (List D)} (hl : goodL n l) (ht : t.length = n.toNat) (k : Nat) : SimL n (roundsL l (k + 1) t) ((revN n l).rounds 1 (k + 1) (Rz.start fun j => - rg t j)) :=
  sim_roundsL hl (k + 1) 1 ht (fun _ => rfl) (fun h => by omega)
section
variable {n : Int} {l t : List (List D)} (hl : goodL n l) (ht : t.length = n.toNat)
include hl ht
theorem lat_done (h0 : 0 < l.length) {p : Nat → Int} (hp : (netN n l).kept p) : (roundsL l (n.toNat + 1) t).2 = false := by
  have h := (sim_lat hl ht n.toNat).r
  have h2 := Net.rounds_done (E := revN n l) (revN_ok hl) h0 (rev_kept.2 hp) (fun j => - rg t j)
  cases hc : (roundsL l (n.toNat + 1) t).2 with
  | false => rfl
  | true => have := h.2 hc; have h3 : (revN n l).n = n.toNat := rfl; rw [h3] at h2; omega
theorem lat_ub {p : Nat → Int} (hp : (netN n l).kept p) (h0 : ∀ j, p j ≤ rg t j) (k j : Nat) : p j ≤ rg (roundsL l (k + 1) t).1 j := by
  have h := (sim_lat hl ht k).t j
  have h2 := Net.rounds_ub (rev_kept.2 hp) (k + 1) 1 (Rz.start fun j => - rg t j) (fun j => by have := h0 j; simp only [Rz.start]; omega) j
  omega
theorem lat_le (k j : Nat) : rg (roundsL l (k + 1) t).1 j ≤ rg t j := by
  have h := (sim_lat hl ht k).t j
  have h2 := Net.rounds_le (E := revN n l) (k + 1) 1 (Rz.start fun j => - rg t j) j
  simp only [Rz.start] at h2 h
  omega
theorem lat_kept {k : Nat} (hd : (roundsL l (k + 1) t).2 = false) : (netN n l).kept (rg (roundsL l (k + 1) t).1) := by
  have h := sim_lat hl ht k
  have h1 := Net.rounds_kept (E := revN n l) (k + 1) 1 (Rz.start fun j => - rg t j) (by omega) (by
    apply Classical.byContradiction
    intro hn
    have := h.r.1 (by omega)
    rw [this] at hd
    cases hd)
  rw [← rev_kept]
  intro i hi
  have := h1 i hi
  rw [h.t, h.t] at this
  exact this
end
theorem lat_stable (l : List (List D)) : ∀ (K f : Nat) (t : List (List D)), (roundsL l K t).2 = false → K ≤ f → roundsL l f t = roundsL l K t ∧ countL l f t = countL l K t
  | 0, _, _, h, _ => by cases h
  | K + 1, f, t, h, hf => by
    obtain ⟨f, rfl⟩ : ∃ g, f = g + 1 := ⟨f - 1, by omega⟩
    simp only [roundsL, countL] at h ⊢
    by_cases hc : (passL l 0 l.length (t, false)).2 = true
    · rw [if_pos hc] at h
      simp only [hc, if_true]
      obtain ⟨h1, h2⟩ := lat_stable l K f _ h (by omega)
      exact ⟨h1, by rw [h2]⟩
    · simp only [hc]
      exact ⟨rfl, rfl⟩
/-! ### The greatest one -/
theorem maxR_le {l : List (List D)} {x : Int} : ∀ (k i : Nat) (m : Int), maxR l i k m ≤ x ↔ m ≤ x ∧ ∀ j, i ≤ j → j < i + k → rg l j ≤ x
  | 0, i, m => ⟨fun h => ⟨h, fun j h1 h2 => by omega⟩, fun h => h.1⟩
  | k + 1, i, m => by
    simp only [maxR, maxR_le k (i + 1)]
    constructor
    · rintro ⟨h1, h2⟩
      refine ⟨by omega, fun j h3 h4 => ?_⟩
      by_cases e : j = i
      · subst e; omega
      · exact h2 j (by omega) (by omega)
    · rintro ⟨h1, h2⟩
      have := h2 i (by omega) (by omega)
      exact ⟨by omega, fun j h3 h4 => h2 j (by omega) (by omega)⟩
theorem maxL_le {l : List (List D)} (h0 : 0 < l.length) {x : Int} : maxL l ≤ x ↔ ∀ j, j < l.length → rg l j ≤ x := by
  unfold maxL
  rw [maxR_le]
  constructor
  · rintro ⟨h1, h2⟩ j hj
    cases j with
    | zero => exact h1
    | succ j => exact h2 (j + 1) (by omega) (by omega)
  · intro h
    exact ⟨h 0 h0, fun j h1 h2 => h j (by omega)⟩
theorem len_subR (f : List (List D)) : ∀ (k i : Nat) (t : List (List D)), (subR f i k t).length = t.length
  | 0, _, _ => rfl
  | k + 1, i, _t => (len_subR f k (i + 1) _).trans (len_rs _ _ _)
theorem rg_subR (f : List (List D)) : ∀ (k i : Nat) (t : List (List D)), i + k ≤ t.length → ∀ j, rg (subR f i k t) j = if i ≤ j ∧ j < i + k then rg t j - rg f j else rg t j
  | 0, i, t, _, j => by rw [if_neg (by omega)]; rfl
  | k + 1, i, t, h, j => by
    simp only [subR]
    rw [rg_subR f k (i + 1) _ (by rw [len_rs]; omega) j, rg_rs (by omega)]
    by_cases e : j = i
    · subst e
      rw [if_neg (by omega), if_pos rfl, if_pos (by omega)]
    · rw [if_neg e]
      by_cases h2 : i ≤ j ∧ j < i + (k + 1)
      · rw [if_pos h2, if_pos (by omega)]
      · rw [if_neg h2, if_neg (by omega)]
/-! ### When there is a latest timetable -/
theorem push_first {n : Int} {l : List (List D)} (hp : netP n l) (_hr : (pushR n (allL n l) (zeros n)).2.2 < 0) : (∀ j, 0 ≤ rg (pushR n (allL n l) (zeros n)).1 j) ∧ (pushR n (allL n l) (zeros n)).1.length = n.toNat := by
  have hl := good_all hp
  exact ⟨fun j => by have := push_le hl (len_zeros n) j; rw [rg_zeros] at this; exact this, (sim_push hl (len_zeros n)).l1⟩
theorem both_lat {n : Int} {l : List (List D)} (hp : netP n l) {x : Int} (hx : 0 ≤ x) (h : bothB n l x = true) : (latR n (allL n l) x).2 = false ∧ rg (latR n (allL n l) x).1 0 = 0 ∧ (∀ j, rg (pushR n (allL n l) (zeros n)).1 j ≤ rg (latR n (allL n l) x).1 j) ∧
    (netN n (allL n l)).kept (rg (latR n (allL n l) x).1) ∧ (∀ j, rg (latR n (allL n l) x).1 j ≤ x) := by
  unfold bothB at h
  rw [Bool.and_eq_true, decide_eq_true_eq, decide_eq_true_eq] at h
  obtain ⟨h1, h2⟩ := h
  have hl := good_all hp
  have hla := len_allL n l
  obtain ⟨n1, n2, -, -⟩ := net_of hp
  obtain ⟨f1, f2⟩ := push_first hp h1
  rw [maxL_le (by omega)] at h2
  have hk := kept_push hl (len_zeros n) h1
  have h0 := push_zero hp h1
  have hll := len_lastR n1 x
  have hb : ∀ j, rg (pushR n (allL n l) (zeros n)).1 j ≤ rg (lastR n x) j := fun j => by
    cases j with
    | zero => rw [rg_last0, h0]; exact Int.le_refl _
    | succ j =>
      rw [rg_lastS]
      split
      · exact h2 _ (by omega)
      · rw [rg_ge (by omega)]; exact Int.le_refl _
  have hd : (latR n (allL n l) x).2 = false := lat_done hl hll (by omega) hk
  have hlb : ∀ j, rg (pushR n (allL n l) (zeros n)).1 j ≤ rg (latR n (allL n l) x).1 j := lat_ub hl hll hk hb n.toNat
  have hub : ∀ j, rg (latR n (allL n l) x).1 j ≤ rg (lastR n x) j := lat_le hl hll n.toNat
  refine ⟨hd, ?_, hlb, lat_kept hl hll hd, fun j => ?_⟩
  · have e1 := hlb 0
    have e2 := hub 0
    rw [rg_last0] at e2
    omega
  · have e1 := hub j
    have e2 := (rg_last_le (n := n) hx j).2
    omega
theorem lat_both {n : Int} {l : List (List D)} (hp : netP n l) {x : Int} (hx : 0 ≤ x) (h1 : (latR n (allL n l) x).2 = false) (h2 : rg (latR n (allL n l) x).1 0 = 0) : bothB n l x = true := by
  have hl := good_all hp
  obtain ⟨n1, n2, -, -⟩ := net_of hp
  have hll := len_lastR n1 x
  have hk : (netN n (allL n l)).kept (rg (latR n (allL n l) x).1) := lat_kept hl hll h1
  have hlen : (latR n (allL n l) x).1.length = n.toNat := (len_roundsL _ _ _).trans hll
  have hpos : ∀ j, 0 ≤ rg (latR n (allL n l) x).1 j := fun j => by
    by_cases hj : j < n.toNat
    · have := kept_first hk hj
      omega
    · rw [rg_ge (by omega)]; exact Int.le_refl _
  obtain ⟨p1, p2⟩ := push_least hp hk hpos
  obtain ⟨f1, f2⟩ := push_first hp p1
  unfold bothB
  rw [Bool.and_eq_true, decide_eq_true_eq, decide_eq_true_eq]
  refine ⟨p1, (maxL_le (by omega)).2 fun j _ => ?_⟩
  have e1 := p2 j
  have e2 : rg (latR n (allL n l) x).1 j ≤ rg (lastR n x) j := lat_le hl hll n.toNat j
  have e3 := (rg_last_le (n := n) hx j).2
  omega
end Go.Proofs.Ytipbcpobnciccaa

namespace Go.Proofs.Ytipbcpobnciccaa
open Go.Lite
set_option linter.unusedVariables false
set_option maxRecDepth 100000
theorem t82 (a b c : D) : fnT C tab82 82 s82 [a, b, c] =
  T.need (decide ((0 : Int) ≤ D.I a ∧ D.I a = D.I a ∧ D.I a ≤ (2 : Int) ^ 40 ∧ (↑Try.prog.types[3].bytes : Int) * D.I a ≤ (2 : Int) ^ 46)) (T.need (yes ((1 : Int) ≤ D.I a ∧ D.I a ≤ (500 : Int) ∧ (↑(List.length (List.replicate (Int.toNat (D.I a)) [D.i (0 : Int)])) : Int) = D.I a ∧ (↑(List.length (List.replicate (Int.toNat (D.I a)) [D.i (0 : Int)])) : Int) = D.I a ∧ (0 : Int) ≤ (0 : Int) ∧ (0 : Int) ≤ D.I a ∧ (↑(List.length (List.replicate (Int.toNat (D.I a)) [D.i (0 : Int)])) : Int) = D.I a)) (T.need (yes (goodL (D.I a) (D.L b) ∧ (↑(Int.toNat (D.I a)) : Int) = D.I a ∧ (↑(List.length (fillP (D.I c) (Int.toNat (0 : Int)) (Int.toNat (D.I a)) (List.replicate (Int.toNat (D.I a)) [D.i (0 : Int)]))) : Int) = D.I a ∧ ∃ K, endsL (D.L b) (fillP (D.I c) (Int.toNat (0 : Int)) (Int.toNat (D.I a)) (List.replicate (Int.toNat (D.I a)) [D.i (0 : Int)])) K)) (T.leaf [D.i (↑(Int.toNat (↑(Int.toNat (D.I a)) : Int)) : Int), D.l (roundsL (D.L b) 501 (fillP (D.I c) (Int.toNat (0 : Int)) (Int.toNat (D.I a)) (List.replicate (Int.toNat (D.I a)) [D.i (0 : Int)]))).fst]))) := by kernel_rfl
theorem t82_3 (a b c d e f g : D) : roundT C tab82 82 (loopOf C.P 82 3) l82_3 [a, b, c, d, e, f, g] =
  T.ite (decide (D.I f < D.I e)) (T.ite (decide (D.I f > (0 : Int))) (T.need (decide ((0 : Int) ≤ D.I f ∧ D.I f < (↑(Int.toNat (D.I d)) : Int))) (T.need (decide (Int.toNat (D.I f) < List.length (D.L g))) (T.leaf (Rd.again [D.i (D.I a), D.l (D.L b), D.i (D.I c), D.i (↑(Int.toNat (D.I d)) : Int), D.i (D.I e), D.i (IntKind.wrap IntKind.i64 (D.I f + (1 : Int))), D.l (List.set (D.L g) (Int.toNat (D.I f)) (updC (List.getD (D.L g) (Int.toNat (D.I f)) []) [D.i (D.I c)] 0 0 (List.length [K.int IntKind.i64])))])))) (T.leaf (Rd.again [D.i (D.I a), D.l (D.L b), D.i (D.I c), D.i (↑(Int.toNat (D.I d)) : Int), D.i (D.I e), D.i (IntKind.wrap IntKind.i64 (D.I f + (1 : Int))), D.l (D.L g)]))) (T.leaf (Rd.out (Ex.exit 0) [D.i (D.I a), D.l (D.L b), D.i (↑(Int.toNat (D.I d)) : Int), D.l (D.L g)])) := by kernel_rfl
theorem t82_8 (a b c d : D) : roundT C tab82 82 (loopOf C.P 82 8) l82_8 [a, b, c, d] =
  T.need (yes (goodL (D.I a) (D.L b) ∧ D.L b = D.L b ∧ (↑(List.length (D.L b)) : Int) = (↑(List.length (D.L b)) : Int) ∧ (↑(Int.toNat (D.I c)) : Int) = D.I a ∧ (↑(List.length (D.L d)) : Int) = D.I a ∧ (0 : Int) ≤ (0 : Int) ∧ (0 : Int) ≤ (↑(List.length (D.L b)) : Int) ∧ room (D.L d) ((↑(List.length (D.L b)) : Int) - (0 : Int)))) (T.ite (!(passL (D.L b) (Int.toNat (0 : Int)) (List.length (D.L b) - Int.toNat (0 : Int)) (D.L d, false)).snd) (T.leaf (Rd.out (Ex.exit 2) [D.i (↑(Int.toNat (D.I a)) : Int), D.l (passL (D.L b) (Int.toNat (0 : Int)) (List.length (D.L b) - Int.toNat (0 : Int)) (D.L d, false)).fst])) (T.leaf (Rd.again [D.i (D.I a), D.l (D.L b), D.i (↑(Int.toNat (D.I a)) : Int), D.l (passL (D.L b) (Int.toNat (0 : Int)) (List.length (D.L b) - Int.toNat (0 : Int)) (D.L d, false)).fst]))) := by kernel_rfl
theorem t82_10 (a b c d e f g h : D) : roundT C tab82 82 (loopOf C.P 82 10) l82_10 [a, b, c, d, e, f, g, h] =
  T.ite (decide (D.I g < D.I f)) (T.need (decide ((0 : Int) ≤ D.I g ∧ D.I g < (↑(List.length (D.L e)) : Int))) (T.need (decide ((0 : Int) ≤ D.I (List.getD (List.getD (D.L e) (Int.toNat (D.I g)) []) (0 + 1) default) ∧ D.I (List.getD (List.getD (D.L e) (Int.toNat (D.I g)) []) (0 + 1) default) < (↑(Int.toNat (D.I c)) : Int))) (T.need (decide (Int.toNat (D.I (List.getD (List.getD (D.L e) (Int.toNat (D.I g)) []) (0 + 1) default)) < List.length (D.L h))) (T.need (decide ((0 : Int) ≤ D.I (List.getD (List.getD (D.L e) (Int.toNat (D.I g)) []) 0 default) ∧ D.I (List.getD (List.getD (D.L e) (Int.toNat (D.I g)) []) 0 default) < (↑(Int.toNat (D.I c)) : Int))) (T.need (decide (Int.toNat (D.I (List.getD (List.getD (D.L e) (Int.toNat (D.I g)) []) 0 default)) < List.length (D.L h))) (T.ite (decide (IntKind.wrap IntKind.i64 (D.I (List.getD (List.getD (D.L h) (Int.toNat (D.I (List.getD (List.getD (D.L e) (Int.toNat (D.I g)) []) (0 + 1) default))) []) 0 default) - D.I (List.getD (List.getD (D.L e) (Int.toNat (D.I g)) []) (0 + 1 + 1) default)) < D.I (List.getD (List.getD (D.L h) (Int.toNat (D.I (List.getD (List.getD (D.L e) (Int.toNat (D.I g)) []) 0 default))) []) 0 default))) (T.need (decide ((0 : Int) ≤ D.I (List.getD (List.getD (D.L e) (Int.toNat (D.I g)) []) 0 default) ∧ D.I (List.getD (List.getD (D.L e) (Int.toNat (D.I g)) []) 0 default) < (↑(Int.toNat (D.I c)) : Int))) (T.need (decide (Int.toNat (D.I (List.getD (List.getD (D.L e) (Int.toNat (D.I g)) []) 0 default)) < List.length (D.L h))) (T.leaf (Rd.again [D.i (D.I a), D.l (D.L b), D.i (↑(Int.toNat (D.I c)) : Int), D.b true, D.l (D.L e), D.i (D.I f), D.i (IntKind.wrap IntKind.i64 (D.I g + (1 : Int))), D.l (List.set (D.L h) (Int.toNat (D.I (List.getD (List.getD (D.L e) (Int.toNat (D.I g)) []) 0 default))) (updC (List.getD (D.L h) (Int.toNat (D.I (List.getD (List.getD (D.L e) (Int.toNat (D.I g)) []) 0 default))) []) [D.i (IntKind.wrap IntKind.i64 (D.I (List.getD (List.getD (D.L h) (Int.toNat (D.I (List.getD (List.getD (D.L e) (Int.toNat (D.I g)) []) (0 + 1) default))) []) 0 default) - D.I (List.getD (List.getD (D.L e) (Int.toNat (D.I g)) []) (0 + 1 + 1) default)))] 0 0 (List.length [K.int IntKind.i64])))])))) (T.leaf (Rd.again [D.i (D.I a), D.l (D.L b), D.i (↑(Int.toNat (D.I c)) : Int), D.b (D.B d), D.l (D.L e), D.i (D.I f), D.i (IntKind.wrap IntKind.i64 (D.I g + (1 : Int))), D.l (D.L h)])))))))) (T.leaf (Rd.out (Ex.exit 4) [D.i (D.I a), D.l (D.L b), D.i (↑(Int.toNat (D.I c)) : Int), D.b (D.B d), D.l (D.L h)])) := by kernel_rfl
theorem t81 (a : D) : fnT C tab81 81 s81 [a] =
  T.ite (decide ((↑(List.length (D.L a)) : Int) < (1 : Int))) T.fail (T.need (decide ((0 : Int) ≤ (0 : Int) ∧ (0 : Int) < (↑(List.length (D.L a)) : Int))) (T.need (yes (List.length (D.L a) < big ∧ (0 : Int) ≤ (1 : Int) ∧ (1 : Int) ≤ (↑(List.length (D.L a)) : Int))) (T.leaf [D.i (maxR (D.L a) (Int.toNat (1 : Int)) (List.length (D.L a) - Int.toNat (1 : Int)) (D.I (List.getD (List.getD (D.L a) (Int.toNat (0 : Int)) []) 0 default)))]))) := by kernel_rfl
theorem t81_5 (a b c : D) : roundT C tab81 81 (loopOf C.P 81 5) l81_5 [a, b, c] =
  T.ite (decide (D.I c < (↑(List.length (D.L a)) : Int))) (T.need (decide ((0 : Int) ≤ D.I c ∧ D.I c < (↑(List.length (D.L a)) : Int))) (T.leaf (Rd.again [D.l (D.L a), D.i (if D.I (List.getD (List.getD (D.L a) (Int.toNat (D.I c)) []) 0 default) > D.I b then D.I (List.getD (List.getD (D.L a) (Int.toNat (D.I c)) []) 0 default) else D.I b), D.i (IntKind.wrap IntKind.i64 (D.I c + (1 : Int)))]))) (T.leaf (Rd.out (Ex.exit 0) [D.i (D.I b)])) := by kernel_rfl
theorem t65 (a b c : D) : fnT C tab65 65 s65 [a, b, c] =
  T.need (yes (List.length (D.L b) < big)) (T.ite (!netOk (D.I a) (D.L b)) (T.leaf [D.i (0 : Int), D.i (2 : Int)]) (T.ite (!within (D.I c) (0 : Int) (1000000000 : Int)) (T.leaf [D.i (0 : Int), D.i (2 : Int)]) (T.need (yes (netP (D.I a) (D.L b))) (T.need (decide (Int.toNat (↑(List.length (allL (D.I a) (D.L b))) : Int) ≤ List.length (allL (D.I a) (D.L b)))) (T.need (yes (goodL (D.I a) (List.take (Int.toNat (↑(List.length (allL (D.I a) (D.L b))) : Int)) (allL (D.I a) (D.L b))) ∧ D.I a ≤ (↑(List.length (List.take (Int.toNat (↑(List.length (allL (D.I a) (D.L b))) : Int)) (allL (D.I a) (D.L b)))) : Int))) (T.ite (decide ((pushR (D.I a) (List.take (Int.toNat (↑(List.length (allL (D.I a) (D.L b))) : Int)) (allL (D.I a) (D.L b))) (zeros (D.I a))).snd.snd < (0 : Int))) (T.ite false (T.leaf [D.i (0 : Int), D.i (5 : Int)]) (T.need (decide (Int.toNat (D.I a) ≤ List.length (pushR (D.I a) (List.take (Int.toNat (↑(List.length (allL (D.I a) (D.L b))) : Int)) (allL (D.I a) (D.L b))) (zeros (D.I a))).fst)) (T.need (yes (0 < List.length (List.take (Int.toNat (D.I a)) (pushR (D.I a) (List.take (Int.toNat (↑(List.length (allL (D.I a) (D.L b))) : Int)) (allL (D.I a) (D.L b))) (zeros (D.I a))).fst) ∧ List.length (List.take (Int.toNat (D.I a)) (pushR (D.I a) (List.take (Int.toNat (↑(List.length (allL (D.I a) (D.L b))) : Int)) (allL (D.I a) (D.L b))) (zeros (D.I a))).fst) < big)) (T.ite (decide (maxL (List.take (Int.toNat (D.I a)) (pushR (D.I a) (List.take (Int.toNat (↑(List.length (allL (D.I a) (D.L b))) : Int)) (allL (D.I a) (D.L b))) (zeros (D.I a))).fst) > D.I c)) (T.leaf [D.i (0 : Int), D.i (5 : Int)]) (T.need (decide (Int.toNat (↑(List.length (allL (D.I a) (D.L b))) : Int) ≤ List.length (allL (D.I a) (D.L b)))) (T.need (yes (goodL (D.I a) (List.take (Int.toNat (↑(List.length (allL (D.I a) (D.L b))) : Int)) (allL (D.I a) (D.L b))) ∧ (0 : Int) ≤ D.I c ∧ D.I c ≤ (1000000000 : Int) ∧ (latR (D.I a) (List.take (Int.toNat (↑(List.length (allL (D.I a) (D.L b))) : Int)) (allL (D.I a) (D.L b))) (D.I c)).snd = false)) (T.leaf [D.i (1 : Int), D.i (↑(Int.toNat (D.I a)) : Int), D.i (↑(Int.toNat (D.I a)) : Int), D.i (0 : Int), D.l (pushR (D.I a) (List.take (Int.toNat (↑(List.length (allL (D.I a) (D.L b))) : Int)) (allL (D.I a) (D.L b))) (zeros (D.I a))).fst, D.l (latR (D.I a) (List.take (Int.toNat (↑(List.length (allL (D.I a) (D.L b))) : Int)) (allL (D.I a) (D.L b))) (D.I c)).fst]))))))) (T.ite true (T.leaf [D.i (0 : Int), D.i (5 : Int)]) (T.need (yes (0 < List.length ([] : List (List D)) ∧ List.length ([] : List (List D)) < big)) (T.ite (decide (maxL [] > D.I c)) (T.leaf [D.i (0 : Int), D.i (5 : Int)]) (T.need (decide (Int.toNat (↑(List.length (allL (D.I a) (D.L b))) : Int) ≤ List.length (allL (D.I a) (D.L b)))) (T.need (yes (goodL (D.I a) (List.take (Int.toNat (↑(List.length (allL (D.I a) (D.L b))) : Int)) (allL (D.I a) (D.L b))) ∧ (0 : Int) ≤ D.I c ∧ D.I c ≤ (1000000000 : Int) ∧ (latR (D.I a) (List.take (Int.toNat (↑(List.length (allL (D.I a) (D.L b))) : Int)) (allL (D.I a) (D.L b))) (D.I c)).snd = false)) T.fail))))))))))) := by kernel_rfl
theorem t33 (a b c : D) : fnT C tab33 33 s33 [a, b, c] =
  T.need (yes (List.length (D.L b) < big)) (T.ite (netOk (D.I a) (D.L b) && within (D.I c) (0 : Int) (1000000000 : Int)) (T.ite (bothB (D.I a) (D.L b) (D.I c)) (T.leaf [D.i (1 : Int), D.i (↑(Int.toNat (D.I a)) : Int), D.i (0 : Int), D.l (latR (D.I a) (allL (D.I a) (D.L b)) (D.I c)).fst]) (T.leaf [D.i (0 : Int), D.i (5 : Int)])) (T.leaf [D.i (0 : Int), D.i (2 : Int)])) := by kernel_rfl
theorem t39 (a b c : D) : fnT C tab39 39 s39 [a, b, c] =
  T.need (yes (List.length (D.L b) < big)) (T.ite (netOk (D.I a) (D.L b) && within (D.I c) (0 : Int) (1000000000 : Int)) (T.ite (bothB (D.I a) (D.L b) (D.I c)) (T.need (yes ((↑(0 + 1) : Int) = (1 : Int) ∧ (↑(Int.toNat (D.I a)) : Int) = (↑(List.length (pushR (D.I a) (allL (D.I a) (D.L b)) (zeros (D.I a))).fst) : Int) ∧ (↑(Int.toNat (D.I a)) : Int) = (↑(List.length (latR (D.I a) (allL (D.I a) (D.L b)) (D.I c)).fst) : Int) ∧ (↑(Int.toNat (D.I a)) : Int) = (↑(List.length (latR (D.I a) (allL (D.I a) (D.L b)) (D.I c)).fst) : Int) ∧ List.length (pushR (D.I a) (allL (D.I a) (D.L b)) (zeros (D.I a))).fst = List.length (latR (D.I a) (allL (D.I a) (D.L b)) (D.I c)).fst ∧ List.length (latR (D.I a) (allL (D.I a) (D.L b)) (D.I c)).fst ≤ 500 ∧ (0 : Int) ≤ (0 : Int) ∧ (0 : Int) ≤ (↑(List.length (latR (D.I a) (allL (D.I a) (D.L b)) (D.I c)).fst) : Int) ∧ bndR (pushR (D.I a) (allL (D.I a) (D.L b)) (zeros (D.I a))).fst (1099511627776 : Int) ∧ ∀ (j : Nat), (0 : Int) ≤ (↑j : Int) → (-1099511627776 : Int) ≤ rg (latR (D.I a) (allL (D.I a) (D.L b)) (D.I c)).fst j ∧ rg (latR (D.I a) (allL (D.I a) (D.L b)) (D.I c)).fst j ≤ (1099511627776 : Int))) (T.leaf [D.i (1 : Int), D.i (↑(Int.toNat (↑(List.length (latR (D.I a) (allL (D.I a) (D.L b)) (D.I c)).fst) : Int)) : Int), D.i (0 : Int), D.l (subR (pushR (D.I a) (allL (D.I a) (D.L b)) (zeros (D.I a))).fst (Int.toNat (0 : Int)) (List.length (latR (D.I a) (allL (D.I a) (D.L b)) (D.I c)).fst - Int.toNat (0 : Int)) (latR (D.I a) (allL (D.I a) (D.L b)) (D.I c)).fst)])) (T.need (yes ((↑0 : Int) = (0 : Int) ∧ (↑0 : Int) = (0 : Int) ∧ (0 : Int) = (0 : Int))) (T.leaf [D.i (0 : Int), D.i (5 : Int)]))) (T.need (yes ((↑0 : Int) = (0 : Int) ∧ (↑0 : Int) = (0 : Int) ∧ (0 : Int) = (0 : Int))) (T.leaf [D.i (0 : Int), D.i (2 : Int)]))) := by kernel_rfl
theorem t39_3_0 (a b c : D) : roundT C tab39 39 (loopOf C.P 39 3) l39_3 [.i 0, a, b, c] =
  T.ite (decide (D.I c < D.I b)) T.fail (T.leaf (Rd.out (Ex.exit 0) [D.i (0 : Int), D.i (D.I a)])) := by kernel_rfl
theorem t39_3_1 (a b c d e f g : D) : roundT C tab39 39 (loopOf C.P 39 3) l39_3 [.i 1, a, b, c, d, e, f, g] =
  T.ite (decide (D.I e < D.I d)) (T.need (decide ((0 : Int) ≤ D.I e ∧ D.I e < (↑(Int.toNat (D.I b)) : Int))) (T.need (decide (Int.toNat (D.I e) < List.length (D.L g))) (T.need (decide ((0 : Int) ≤ D.I e ∧ D.I e < (↑(Int.toNat (D.I a)) : Int))) (T.need (decide (Int.toNat (D.I e) < List.length (D.L f))) (T.need (decide ((0 : Int) ≤ D.I e ∧ D.I e < (↑(Int.toNat (D.I b)) : Int))) (T.need (decide (Int.toNat (D.I e) < List.length (D.L g))) (T.leaf (Rd.again [D.i (1 : Int), D.i (↑(Int.toNat (D.I a)) : Int), D.i (↑(Int.toNat (D.I b)) : Int), D.i (D.I c), D.i (D.I d), D.i (IntKind.wrap IntKind.i64 (D.I e + (1 : Int))), D.l (D.L f), D.l (List.set (D.L g) (Int.toNat (D.I e)) (updC (List.getD (D.L g) (Int.toNat (D.I e)) []) [D.i (IntKind.wrap IntKind.i64 (D.I (List.getD (List.getD (D.L g) (Int.toNat (D.I e)) []) 0 default) - D.I (List.getD (List.getD (D.L f) (Int.toNat (D.I e)) []) 0 default)))] 0 0 (List.length [K.int IntKind.i64])))])))))))) (T.leaf (Rd.out (Ex.exit 0) [D.i (1 : Int), D.i (↑(Int.toNat (D.I b)) : Int), D.i (D.I c), D.l (D.L g)])) := by kernel_rfl
theorem t40 (a b c : D) : fnT C tab40 40 s40 [a, b, c] =
  T.need (yes (netP (D.I a) (D.L b))) (T.need (decide ((0 : Int) ≤ D.I a ∧ D.I a = D.I a ∧ D.I a ≤ (2 : Int) ^ 40 ∧ (↑Try.prog.types[3].bytes : Int) * D.I a ≤ (2 : Int) ^ 46)) (T.need (yes ((1 : Int) ≤ D.I a ∧ D.I a ≤ (500 : Int) ∧ (1 : Int) ≤ (1 : Int) ∧ (1 : Int) ≤ D.I a ∧ (↑(List.length (List.replicate (Int.toNat (D.I a)) [D.i (0 : Int)])) : Int) = D.I a ∧ (↑(List.length (List.replicate (Int.toNat (D.I a)) [D.i (0 : Int)])) : Int) = D.I a ∧ (0 : Int) ≤ (↑(Int.toNat (↑(List.length (allL (D.I a) (D.L b))) : Int)) : Int))) (T.need (yes (goodL (D.I a) (allL (D.I a) (D.L b)) ∧ (↑(Int.toNat (↑(Int.toNat (↑(List.length (allL (D.I a) (D.L b))) : Int)) : Int)) : Int) = (↑(List.length (allL (D.I a) (D.L b))) : Int) ∧ (↑(Int.toNat (D.I a)) : Int) = D.I a ∧ (↑(List.length (fillR (D.I c) (Int.toNat (1 : Int)) (Int.toNat (D.I a - (1 : Int))) (List.replicate (Int.toNat (D.I a)) [D.i (0 : Int)]))) : Int) = D.I a ∧ (0 : Int) ≤ (0 : Int) ∧ (0 : Int) ≤ D.I a + (1 : Int) ∧ room (fillR (D.I c) (Int.toNat (1 : Int)) (Int.toNat (D.I a - (1 : Int))) (List.replicate (Int.toNat (D.I a)) [D.i (0 : Int)])) ((↑(List.length (allL (D.I a) (D.L b))) : Int) * (D.I a + (1 : Int) - (0 : Int))))) (T.ite (roundsL (allL (D.I a) (D.L b)) (Int.toNat (D.I a + (1 : Int) - (0 : Int))) (fillR (D.I c) (Int.toNat (1 : Int)) (Int.toNat (D.I a - (1 : Int))) (List.replicate (Int.toNat (D.I a)) [D.i (0 : Int)]))).snd (T.leaf [D.i (0 : Int), D.b false]) (T.leaf [D.i (1 : Int), D.i (↑(Int.toNat (D.I a)) : Int), D.b (rg (roundsL (allL (D.I a) (D.L b)) (Int.toNat (D.I a + (1 : Int) - (0 : Int))) (fillR (D.I c) (Int.toNat (1 : Int)) (Int.toNat (D.I a - (1 : Int))) (List.replicate (Int.toNat (D.I a)) [D.i (0 : Int)]))).fst 0 == (0 : Int)), D.l (roundsL (allL (D.I a) (D.L b)) (Int.toNat (D.I a + (1 : Int) - (0 : Int))) (fillR (D.I c) (Int.toNat (1 : Int)) (Int.toNat (D.I a - (1 : Int))) (List.replicate (Int.toNat (D.I a)) [D.i (0 : Int)]))).fst]))))) := by kernel_rfl
theorem t40_4 (a b c d e f g : D) : roundT C tab40 40 (loopOf C.P 40 4) l40_4 [a, b, c, d, e, f, g] =
  T.ite (decide (D.I e < D.I a)) (T.need (decide ((0 : Int) ≤ D.I e ∧ D.I e < (↑(Int.toNat (D.I d)) : Int))) (T.need (decide (Int.toNat (D.I e) < List.length (D.L g))) (T.leaf (Rd.again [D.i (D.I a), D.i (D.I b), D.i (↑(Int.toNat (D.I c)) : Int), D.i (↑(Int.toNat (D.I d)) : Int), D.i (IntKind.wrap IntKind.i64 (D.I e + (1 : Int))), D.l (D.L f), D.l (List.set (D.L g) (Int.toNat (D.I e)) (updC (List.getD (D.L g) (Int.toNat (D.I e)) []) [D.i (D.I b)] 0 0 (List.length [K.int IntKind.i64])))])))) (T.leaf (Rd.out (Ex.exit 0) [D.i (D.I a), D.i (↑(Int.toNat (D.I c)) : Int), D.i (↑(Int.toNat (D.I d)) : Int), D.l (D.L f), D.l (D.L g)])) := by kernel_rfl
theorem t40_8 (a b c d e f : D) : roundT C tab40 40 (loopOf C.P 40 8) l40_8 [a, b, c, d, e, f] =
  T.ite (decide (D.I d ≤ D.I a)) (T.need (yes (goodL (D.I a) (D.L e) ∧ (↑(Int.toNat (D.I b)) : Int) = (↑(List.length (D.L e)) : Int) ∧ (↑(Int.toNat (D.I c)) : Int) = D.I a ∧ (↑(List.length (D.L f)) : Int) = D.I a ∧ (0 : Int) ≤ (0 : Int) ∧ (0 : Int) ≤ (↑(List.length (D.L e)) : Int) ∧ room (D.L f) ((↑(List.length (D.L e)) : Int) - (0 : Int)))) (T.ite (!(passL (D.L e) (Int.toNat (0 : Int)) (List.length (D.L e) - Int.toNat (0 : Int)) (D.L f, !true)).snd) (T.need (decide ((0 : Int) ≤ (0 : Int) ∧ (0 : Int) < (↑(Int.toNat (D.I a)) : Int))) (T.need (decide (Int.toNat (0 : Int) < List.length (passL (D.L e) (Int.toNat (0 : Int)) (List.length (D.L e) - Int.toNat (0 : Int)) (D.L f, !true)).fst)) (T.leaf (Rd.out Ex.ret [D.i (↑(Int.toNat (D.I a)) : Int), D.b (D.I (List.getD (List.getD (passL (D.L e) (Int.toNat (0 : Int)) (List.length (D.L e) - Int.toNat (0 : Int)) (D.L f, !true)).fst (Int.toNat (0 : Int)) []) 0 default) == (0 : Int)), D.l (passL (D.L e) (Int.toNat (0 : Int)) (List.length (D.L e) - Int.toNat (0 : Int)) (D.L f, !true)).fst])))) (T.leaf (Rd.again [D.i (D.I a), D.i (↑(Int.toNat (↑(List.length (D.L e)) : Int)) : Int), D.i (↑(Int.toNat (D.I a)) : Int), D.i (IntKind.wrap IntKind.i64 (D.I d + (1 : Int))), D.l (D.L e), D.l (passL (D.L e) (Int.toNat (0 : Int)) (List.length (D.L e) - Int.toNat (0 : Int)) (D.L f, !true)).fst])))) (T.leaf (Rd.out (Ex.exit 2) [])) := by kernel_rfl
theorem t40_12 (a b c d e f g h : D) : roundT C tab40 40 (loopOf C.P 40 12) l40_12 [a, b, c, d, e, f, g, h] =
  T.ite (decide (D.I f < (↑(Int.toNat (D.I b)) : Int))) (T.need (decide ((0 : Int) ≤ D.I f ∧ D.I f < (↑(Int.toNat (D.I b)) : Int))) (T.need (decide (Int.toNat (D.I f) < List.length (D.L g))) (T.need (decide ((0 : Int) ≤ D.I (List.getD (List.getD (D.L g) (Int.toNat (D.I f)) []) (0 + 1) default) ∧ D.I (List.getD (List.getD (D.L g) (Int.toNat (D.I f)) []) (0 + 1) default) < (↑(Int.toNat (D.I c)) : Int))) (T.need (decide (Int.toNat (D.I (List.getD (List.getD (D.L g) (Int.toNat (D.I f)) []) (0 + 1) default)) < List.length (D.L h))) (T.need (decide ((0 : Int) ≤ D.I (List.getD (List.getD (D.L g) (Int.toNat (D.I f)) []) 0 default) ∧ D.I (List.getD (List.getD (D.L g) (Int.toNat (D.I f)) []) 0 default) < (↑(Int.toNat (D.I c)) : Int))) (T.need (decide (Int.toNat (D.I (List.getD (List.getD (D.L g) (Int.toNat (D.I f)) []) 0 default)) < List.length (D.L h))) (T.ite (decide (IntKind.wrap IntKind.i64 (D.I (List.getD (List.getD (D.L h) (Int.toNat (D.I (List.getD (List.getD (D.L g) (Int.toNat (D.I f)) []) (0 + 1) default))) []) 0 default) - D.I (List.getD (List.getD (D.L g) (Int.toNat (D.I f)) []) (0 + 1 + 1) default)) < D.I (List.getD (List.getD (D.L h) (Int.toNat (D.I (List.getD (List.getD (D.L g) (Int.toNat (D.I f)) []) 0 default))) []) 0 default))) (T.need (decide ((0 : Int) ≤ D.I (List.getD (List.getD (D.L g) (Int.toNat (D.I f)) []) (0 + 1) default) ∧ D.I (List.getD (List.getD (D.L g) (Int.toNat (D.I f)) []) (0 + 1) default) < (↑(Int.toNat (D.I c)) : Int))) (T.need (decide (Int.toNat (D.I (List.getD (List.getD (D.L g) (Int.toNat (D.I f)) []) (0 + 1) default)) < List.length (D.L h))) (T.need (decide ((0 : Int) ≤ D.I (List.getD (List.getD (D.L g) (Int.toNat (D.I f)) []) 0 default) ∧ D.I (List.getD (List.getD (D.L g) (Int.toNat (D.I f)) []) 0 default) < (↑(Int.toNat (D.I c)) : Int))) (T.need (decide (Int.toNat (D.I (List.getD (List.getD (D.L g) (Int.toNat (D.I f)) []) 0 default)) < List.length (D.L h))) (T.leaf (Rd.again [D.i (D.I a), D.i (↑(Int.toNat (D.I b)) : Int), D.i (↑(Int.toNat (D.I c)) : Int), D.i (D.I d), D.b false, D.i (IntKind.wrap IntKind.i64 (D.I f + (1 : Int))), D.l (D.L g), D.l (List.set (D.L h) (Int.toNat (D.I (List.getD (List.getD (D.L g) (Int.toNat (D.I f)) []) 0 default))) (updC (List.getD (D.L h) (Int.toNat (D.I (List.getD (List.getD (D.L g) (Int.toNat (D.I f)) []) 0 default))) []) [D.i (IntKind.wrap IntKind.i64 (D.I (List.getD (List.getD (D.L h) (Int.toNat (D.I (List.getD (List.getD (D.L g) (Int.toNat (D.I f)) []) (0 + 1) default))) []) 0 default) - D.I (List.getD (List.getD (D.L g) (Int.toNat (D.I f)) []) (0 + 1 + 1) default)))] 0 0 (List.length [K.int IntKind.i64])))])))))) (T.leaf (Rd.again [D.i (D.I a), D.i (↑(Int.toNat (D.I b)) : Int), D.i (↑(Int.toNat (D.I c)) : Int), D.i (D.I d), D.b (D.B e), D.i (IntKind.wrap IntKind.i64 (D.I f + (1 : Int))), D.l (D.L g), D.l (D.L h)]))))))))) (T.leaf (Rd.out (Ex.exit 4) [D.i (D.I a), D.i (↑(Int.toNat (D.I b)) : Int), D.i (↑(Int.toNat (D.I c)) : Int), D.i (D.I d), D.b (D.B e), D.l (D.L g), D.l (D.L h)])) := by kernel_rfl
end Go.Proofs.Ytipbcpobnciccaa

namespace Go.Proofs.Ytipbcpobnciccaa
open Go.Lite
set_option maxRecDepth 100000
theorem count_le (l : List (List D)) : ∀ (k : Nat) (t : List (List D)), countL l k t ≤ k
  | 0, _ => Nat.le_refl _
  | k + 1, t => by
    simp only [countL]
    split
    · exact Nat.succ_le_succ (count_le l k _)
    · exact Nat.zero_le _
theorem room_last {n x : Int} (hx : 0 ≤ x) (hx2 : x ≤ 1000000000) {m : Int} (hm : m ≤ 5500 * 501) : room (lastR n x) m :=
  ⟨1000000000, fun j => by have := rg_last_le (n := n) hx j; omega, by omega⟩
theorem mul_room {n : Int} {l : List (List D)} (hl : goodL n l) {k : Int} (h0 : 0 ≤ k) (hk : k ≤ 501) : (l.length : Int) * k ≤ 5500 * 501 := by
  obtain ⟨-, -, h, -⟩ := hl
  exact Int.mul_le_mul (by omega) hk h0 (by omega)
theorem ok82_10 (n : Nat) : LoopSim C (n + 0) 82 (loopOf C.P 82 10) (mkL l82_10 G82_10) := by
  refine loop_ofK hC (sp := sp82) (lp := lp82) (sw := sw82) trivial trivial 0 [] (by kernel_rfl) rfl (fun k hk => by cases hk) (by kernel_rfl) (fun ds => ((ds.getD 5 default).I - (ds.getD 6 default).I).toNat) fun ds rr h => ?_
  unfold G82_10 at h
  split at h
  · rename_i n l q c l' k i t
    obtain ⟨hp, h⟩ := need_some h
    rw [yes_iff] at hp
    obtain ⟨⟨g1, g2, g3, g4⟩, h2, h3, h4, h5, h6, h7, h8⟩ := hp
    have hb := big_eq
    refine ⟨by rw [fuelC]; simp; omega, ?_⟩
    rw [show roundTK C (mkTab sp82 lp82 sw82) 82 (loopOf C.P 82 10) 0 l82_10 [n, l, q, c, l', k, i, t] = _ from t82_10 n l q c l' k i t]
    have hg : goodL n.I l.L := ⟨g1, g2, g3, g4⟩
    obtain ⟨j, hj⟩ : ∃ j : Nat, i.I = j := ⟨i.I.toNat, by omega⟩
    
    simp only [hj, h2, h3, h4, Int.toNat_natCast, upd1] at h h7 h8 ⊢
    refine rd_if (fun hlt => ?_) fun hge => rd_out ?_
    · have hjl : j < l.L.length := by omega
      obtain ⟨f1, f2, f3⟩ := g4 j hjl
      have e1 : ((l.L.getD j []).getD 0 default).I = lkF l.L j := rfl
      have e2 : ((l.L.getD j []).getD 1 default).I = lkT l.L j := rfl
      have e3 : ((l.L.getD j []).getD 2 default).I = lkW l.L j := rfl
      have h0 := room_rg h8 (by omega) (lkT l.L j).toNat
      have e6 : ((n.I.toNat : Nat) : Int) = n.I := by omega
      simp only [e1, e2, e3, rg_def, rs_def, e6]
      have w : IntKind.i64.wrap (rg t.L (lkT l.L j).toNat - lkW l.L j) = rg t.L (lkT l.L j).toNat - lkW l.L j := wrap_id (by omega) (by omega)
      rw [w, wrap_succ (by omega)]
      have e4 : l.L.length - j = (l.L.length - (j + 1)) + 1 := by omega
      rw [e4] at h
      simp only [passL] at h
      have hroom : room (stepL l.L j (t.L, c.B)).1 ((l.L.length : Int) - ((j + 1 : Nat) : Int)) := room_stepL hg hjl (s := (t.L, c.B)) h5 (by
        have : (l.L.length : Int) - ((j + 1 : Nat) : Int) + 1 = l.L.length - j := by omega
        rw [this]; exact h8)
      have hmu : ((l.L.length : Int) - ((j + 1 : Nat) : Int)).toNat < (k.I - i.I).toNat := by omega
      refine rd_dec ⟨by omega, by omega⟩ (rd_dec ⟨by omega, by omega⟩ (rd_dec (by omega) (rd_dec ⟨by omega, by omega⟩ (rd_dec (by omega) (rd_if (fun hgt => ?_) fun hle => ?_)))))
      · have hst : stepL l.L j (t.L, c.B) = (rs t.L (lkF l.L j).toNat (rg t.L (lkT l.L j).toNat - lkW l.L j), true) := if_pos hgt
        rw [hst] at h hroom
        refine rd_dec ⟨by omega, by omega⟩ (rd_dec (by omega) (rd_again ((need_yes ⟨hg, rfl, rfl, by simp only [I_i], by simp only [L_l, len_rs, I_i]; exact h5, by simp only [I_i]; omega, by simp only [I_i, L_l]; omega, hroom⟩).trans ?_) hmu))
        simp only [L_l, I_i, B_b, Int.toNat_natCast]
        exact h
      · have hst : stepL l.L j (t.L, c.B) = (t.L, c.B) := if_neg hle
        rw [hst] at h hroom
        refine rd_again ((need_yes ⟨hg, rfl, rfl, by simp only [I_i], h5, by simp only [I_i]; omega, by simp only [I_i, L_l]; omega, hroom⟩).trans ?_) hmu
        simp only [L_l, I_i, B_b, Int.toNat_natCast]
        exact h
    · rw [← h]
      have e5 : l.L.length - j = 0 := by omega
      have e6 : ((n.I.toNat : Nat) : Int) = n.I := by omega
      simp only [e5, passL, run_leaf, e6]
  · cases h
theorem ok82_8 (n : Nat) : LoopSim C (n + 0) 82 (loopOf C.P 82 8) (mkL l82_8 G82_8) := by
  refine loop_ofK hC (sp := sp82) (lp := lp82) (sw := sw82) trivial trivial 0 [10] (by kernel_rfl) (by kernel_rfl) (fun k hk L hL => by simp at hk; subst hk; cases hL; exact ok82_10 n) (by kernel_rfl) (fun ds => countL (ds.getD 1 default).L 501 (ds.getD 3 default).L) fun ds rr h => ?_
  unfold G82_8 at h
  split at h
  · rename_i n l q t
    obtain ⟨hp, h⟩ := need_some h
    rw [yes_iff] at hp
    obtain ⟨⟨g1, g2, g3, g4⟩, h2, h3, K, hK⟩ := hp
    have hb := big_eq
    have hcl := count_le l.L 501 t.L
    refine ⟨by rw [fuelC]; simp; omega, ?_⟩
    rw [show roundTK C (mkTab sp82 lp82 sw82) 82 (loopOf C.P 82 8) 0 l82_8 [n, l, q, t] = _ from t82_8 n l q t]
    have hg : goodL n.I l.L := ⟨g1, g2, g3, g4⟩
    have e6 : ((n.I.toNat : Nat) : Int) = n.I := by omega
    simp only [h2, Int.toNat_zero, Nat.sub_zero, Int.sub_zero, e6] at h ⊢
    match K, hK with
    | 0, hK => exact absurd hK.1 (by simp [roundsL])
    | K + 1, hK =>
    obtain ⟨k1, k2, k3⟩ := hK
    have hr1 : room t.L ((l.L.length : Int) * K + (l.L.length : Int)) := by
      have : (l.L.length : Int) * K + l.L.length = l.L.length * ((K + 1 : Nat) : Int) := by
        rw [show ((K + 1 : Nat) : Int) = (K : Int) + 1 from rfl, Int.mul_add, Int.mul_one]
      rw [this]; exact k3
    have hr0 : room t.L (l.L.length : Int) := by
      obtain ⟨M, m1, m2⟩ := hr1
      have : 0 ≤ (l.L.length : Int) * K := Int.mul_nonneg (by omega) (by omega)
      exact ⟨M, m1, by rw [Int.mul_add] at m2; omega⟩
    have hr2 := room_passL hg l.L.length 0 (by omega) (s := (t.L, false)) h3 hr1
    have hl2 := len_passL l.L l.L.length 0 (t.L, false)
    have hst := lat_stable l.L (K + 1) 501 t.L k1 k2
    refine rd_yes ⟨hg, by trivial, by trivial, by trivial, h3, by omega, by omega, hr0⟩ (rd_not (fun hc => rd_out ?_) fun hc => ?_)
    · rw [hst.1] at h
      simp only [roundsL, hc, Bool.false_eq_true, if_false] at h
      exact h
    · simp only [roundsL, hc, if_true] at k1
      have hs2 := lat_stable l.L K 501 _ k1 (by omega)
      refine rd_again ((need_yes ⟨hg, by simp only [I_i], by simp only [L_l, hl2]; exact h3, K, k1, by omega, hr2⟩).trans ?_) ?_
      · rw [hst.1] at h
        simp only [roundsL, hc, if_true] at h
        simp only [L_l, I_i, hs2.1]
        exact h
      · show countL l.L 501 (passL l.L 0 l.L.length (t.L, false)).1 < countL l.L 501 t.L
        rw [hst.2, hs2.2]
        simp only [countL, hc, if_true]
        omega
  · cases h
theorem ok82_3 (n : Nat) : LoopSim C (n + 0) 82 (loopOf C.P 82 3) (mkL l82_3 G82_3) := by
  refine loop_ofK hC (sp := sp82) (lp := lp82) (sw := sw82) trivial trivial 0 [] (by kernel_rfl) rfl (fun k hk => by cases hk) (by kernel_rfl) (fun ds => ((ds.getD 4 default).I - (ds.getD 5 default).I).toNat) fun ds rr h => ?_
  unfold G82_3 at h
  split at h
  · rename_i n l x q k i t
    obtain ⟨hp, h⟩ := need_some h
    rw [yes_iff] at hp
    obtain ⟨h1, h2, h3, h4, h5, h6, h7⟩ := hp
    have hb := big_eq
    refine ⟨by rw [fuelC]; simp; omega, ?_⟩
    rw [show roundTK C (mkTab sp82 lp82 sw82) 82 (loopOf C.P 82 3) 0 l82_3 [n, l, x, q, k, i, t] = _ from t82_3 n l x q k i t]
    obtain ⟨j, hj⟩ : ∃ j : Nat, i.I = j := ⟨i.I.toNat, by omega⟩
    have e6 : ((n.I.toNat : Nat) : Int) = n.I := by omega
    simp only [hj, h3, h4, Int.toNat_natCast, upd1, rs_def, e6] at h h5 h6 ⊢
    refine rd_if (fun hlt => rd_if (fun hpos => ?_) fun hz => ?_) fun hge => rd_out ?_
    · rw [wrap_succ (by omega)]
      rw [fillP_step _ (by omega) (by omega)] at h
      refine rd_dec ⟨by omega, by omega⟩ (rd_dec (by omega) (rd_again ((need_yes ⟨h1, h2, by simp only [I_i], by simp only [I_i], by simp only [I_i]; omega, by simp only [I_i]; omega, by simp only [L_l, len_rs]; exact h7⟩).trans ?_) (show (n.I - ((j + 1 : Nat) : Int)).toNat < (k.I - i.I).toNat by omega)))
      simp only [I_i, L_l, Int.toNat_natCast]
      exact h
    · obtain rfl : j = 0 := by omega
      rw [fillP_zero] at h
      rw [wrap_succ (by omega)]
      refine rd_again ((need_yes ⟨h1, h2, by simp only [I_i], by simp only [I_i], by simp only [I_i]; omega, by simp only [I_i]; omega, h7⟩).trans ?_) (show (n.I - ((0 + 1 : Nat) : Int)).toNat < (k.I - i.I).toNat by omega)
      simp only [I_i, L_l, Int.toNat_natCast]
      exact h
    · rw [fillP_end _ (by omega) (by omega)] at h
      exact h
  · cases h
theorem ok82 (n : Nat) : FnOK C (n + 1) 82 (mkF s82 G82) := by
  refine fn_ofS hC (sp := sp82) (lp := lp82) (sw := sw82) trivial trivial (by kernel_rfl) [3, 8] (by kernel_rfl) (by kernel_rfl) (fun k hk L hL => by
      simp at hk
      rcases hk with rfl | rfl <;> cases hL
      · exact ok82_3 n
      · exact ok82_8 n) fun ds rr h => ?_
  unfold G82 at h
  split at h
  · rename_i n l x
    obtain ⟨hp, h⟩ := need_some h
    rw [yes_iff] at hp
    obtain ⟨hg, h2, h3, h4⟩ := hp
    refine (congrArg T.run (t82 n l x)).trans ?_
    obtain ⟨g1, g2, g3, g4⟩ := id hg
    have hb := big_eq
    have ez : List.replicate n.I.toNat [D.i 0] = zeros n.I := rfl
    have e6 : ((n.I.toNat : Nat) : Int) = n.I := by omega
    rw [ez, bytes3, show (0 : Int).toNat = 0 from rfl, fillP_last g1]
    have hll := len_lastR g1 x.I
    have hlz := len_zeros n.I
    have hst := lat_stable l.L (n.I.toNat + 1) 501 _ h4 (by omega)
    refine go_dec ⟨by omega, rfl, by omega, by omega⟩ (go_yes ⟨g1, g2, by omega, by omega, by omega, by omega, by omega⟩ (go_yes ⟨hg, by omega, by omega, n.I.toNat + 1, h4, by omega, room_last h2 h3 (mul_room hg (by omega) (by omega))⟩ ?_))
    simp only [e6]
    rw [hst.1]
    exact h
  · cases h
theorem ok81_5 (n : Nat) : LoopSim C (n + 0) 81 (loopOf C.P 81 5) (mkL l81_5 G81_5) := by
  refine loop_ofK hC (sp := sp81) (lp := lp81) (sw := sw81) trivial trivial 0 [] (by kernel_rfl) rfl (fun k hk => by cases hk) (by kernel_rfl) (fun ds => (((ds.getD 0 default).L.length : Int) - (ds.getD 2 default).I).toNat) fun ds rr h => ?_
  unfold G81_5 at h
  split at h
  · rename_i l m i
    obtain ⟨hp, h⟩ := need_some h
    rw [yes_iff] at hp
    obtain ⟨h1, h2, h3⟩ := hp
    have hb := big_eq
    refine ⟨by rw [fuelC]; simp; omega, ?_⟩
    rw [show roundTK C (mkTab sp81 lp81 sw81) 81 (loopOf C.P 81 5) 0 l81_5 [l, m, i] = _ from t81_5 l m i]
    obtain ⟨k, hk⟩ : ∃ k : Nat, i.I = k := ⟨i.I.toNat, by omega⟩
    simp only [hk, Int.toNat_natCast, rg_def, max_if] at h h3 ⊢
    refine rd_if (fun hlt => ?_) fun hge => rd_out ?_
    · have e : l.L.length - k = (l.L.length - (k + 1)) + 1 := by omega
      rw [e] at h
      rw [wrap_succ (by omega)]
      refine rd_dec ⟨by omega, by omega⟩ (rd_again ((need_yes ⟨h1, by simp only [I_i]; omega, by simp only [I_i, L_l]; omega⟩).trans ?_) (show ((l.L.length : Int) - ((k + 1 : Nat) : Int)).toNat < ((l.L.length : Int) - i.I).toNat by omega))
      exact h
    · rw [show l.L.length - k = 0 by omega] at h
      exact h
  · cases h
theorem ok81 (n : Nat) : FnOK C (n + 1) 81 (mkF s81 G81) := by
  refine fn_ofS hC (sp := sp81) (lp := lp81) (sw := sw81) trivial trivial (by kernel_rfl) [5] (by kernel_rfl) (by kernel_rfl) (fun k hk L hL => by simp at hk; subst hk; cases hL; exact ok81_5 n) fun ds rr h => ?_
  unfold G81 at h
  split at h
  · rename_i l
    obtain ⟨hp, h⟩ := need_some h
    rw [yes_iff] at hp
    obtain ⟨h1, h2⟩ := hp
    refine (congrArg T.run (t81 l)).trans ?_
    refine go_neg (by omega) (go_dec ⟨by omega, by omega⟩ (go_yes ⟨h2, by omega, by omega⟩ ?_))
    exact h
  · cases h
theorem ok65 (n : Nat) : FnOK C (n + 6) 65 (mkF s65 G65) := by
  refine fn_ofS hC (sp := sp65) (lp := lp65) (sw := sw65) ⟨ok47 n, ok48 (n + 4), ok49 (n + 3), ok50 (n + 3), ok81 (n + 4), ok82 (n + 4), trivial⟩ trivial (by kernel_rfl) [] (by kernel_rfl) rfl (fun k hk => by cases hk) fun ds rr h => ?_
  unfold G65 at h
  split at h
  · rename_i n l x
    obtain ⟨hp, h⟩ := need_some h
    rw [yes_iff] at hp
    have h1 := hp
    refine (congrArg T.run (t65 n l x)).trans ?_
    rw [← h]
    have hb := big_eq
    refine go_yes h1 (go_not (fun hn => by rw [hn, Bool.false_and]; rfl) fun hn => ?_)
    rw [hn, Bool.true_and]
    refine go_not (fun hw => by rw [hw]; rfl) fun hw => ?_
    rw [hw, run_true]
    have hp : netP n.I l.L := hn
    obtain ⟨x1, x2⟩ := Lite.within_iff.1 hw
    obtain ⟨k1, k2, k3, k4⟩ := net_of hp
    have hg := good_all hp
    have hla := len_allL n.I l.L
    simp only [Int.toNat_natCast, List.take_length]
    refine go_yes hp (go_dec (Nat.le_refl _) (go_yes ⟨hg, by omega⟩ (go_if (fun hr => ?_) fun hr => ?_)))
    · obtain ⟨f1, f2⟩ := push_first hp hr
      have ht : List.take n.I.toNat (pushR n.I (allL n.I l.L) (zeros n.I)).1 = (pushR n.I (allL n.I l.L) (zeros n.I)).1 := List.take_of_length_le (by omega)
      rw [ht]
      refine go_false rfl (go_dec (by omega) (go_yes ⟨by omega, by omega⟩ (go_if (fun hm => ?_) fun hm => ?_)))
      · have hbb : bothB n.I l.L x.I = false := by
          unfold bothB
          rw [decide_eq_false (show ¬ maxL (pushR n.I (allL n.I l.L) (zeros n.I)).1 ≤ x.I by omega), Bool.and_false]
        rw [hbb]
        rfl
      · have hbb : bothB n.I l.L x.I = true := by
          unfold bothB
          rw [decide_eq_true (show maxL (pushR n.I (allL n.I l.L) (zeros n.I)).1 ≤ x.I by omega), decide_eq_true hr]
          rfl
        obtain ⟨b1, -⟩ := both_lat hp x1 hbb
        rw [hbb]
        refine go_dec (Nat.le_refl _) (go_yes ⟨hg, x1, x2, b1⟩ ?_)
        rw [show ((n.I.toNat : Nat) : Int) = n.I by omega]
        rfl
    · have hbb : bothB n.I l.L x.I = false := by
        unfold bothB
        rw [decide_eq_false hr, Bool.false_and]
      rw [hbb]
      exact go_true rfl rfl
  · cases h
theorem ok33 (n : Nat) : FnOK C (n + 7) 33 (mkF s33 G33) := by
  refine fn_ofS hC (sp := sp33) (lp := lp33) (sw := sw33) ⟨ok65 n, trivial⟩ trivial (by kernel_rfl) [] (by kernel_rfl) rfl (fun k hk => by cases hk) fun ds rr h => ?_
  unfold G33 at h
  split at h
  · rename_i n l x
    obtain ⟨hp, h⟩ := need_some h
    rw [yes_iff] at hp
    have h1 := hp
    refine (congrArg T.run (t33 n l x)).trans ?_
    rw [← h]
    refine go_yes h1 (go_ite (fun c => ?_) fun c => by rw [c]; rfl)
    rw [c, run_true]
    have hn : netOk n.I l.L = true := (Bool.and_eq_true_iff.1 c).1
    have k1 := (net_of (show netP n.I l.L from hn)).1
    rw [show ((n.I.toNat : Nat) : Int) = n.I by omega]
  · cases h
theorem ok39_3 (n : Nat) : LoopSim C (n + 6) 39 (loopOf C.P 39 3) (mkL l39_3 G39_3) := by
  refine loop_ofK hC (sp := sp39) (lp := lp39) (sw := sw39) ⟨ok65 n, trivial⟩ trivial 0 [] (by kernel_rfl) rfl (fun k hk => by cases hk) (by kernel_rfl) (fun ds => if (ds.getD 0 default).I = 0 then 0 else ((ds.getD 4 default).I - (ds.getD 5 default).I).toNat) fun ds rr h => ?_
  unfold G39_3 at h
  split at h
  · rename_i j q p e k i f t
    obtain ⟨hp, h⟩ := need_some h
    rw [yes_iff] at hp
    obtain ⟨hj, h2, h3, h4, h5, h6, h7, h8, h9, h10⟩ := hp
    have hb := big_eq
    refine ⟨by rw [fuelC]; simp [hj]; omega, ?_⟩
    rw [roundTK_head (j := j) (n := 1) hj (by decide), show roundTK C (mkTab sp39 lp39 sw39) 39 (loopOf C.P 39 3) 0 l39_3 [.i 1, q, p, e, k, i, f, t] = _ from t39_3_1 q p e k i f t]
    obtain ⟨r, hr⟩ : ∃ r : Nat, i.I = r := ⟨i.I.toNat, by omega⟩
    simp only [hr, h2, h3, h4, Int.toNat_natCast, upd1, rg_def, rs_def] at h h8 h10 ⊢
    refine rd_if (fun hlt => ?_) fun hge => rd_out ?_
    · have e : t.L.length - r = (t.L.length - (r + 1)) + 1 := by omega
      rw [e] at h
      have a1 := h9 r
      have a2 := h10 r (Int.le_refl _)
      rw [wrap_succ (by omega), wrap_id (by omega) (by omega)]
      have hnx : ∀ j : Nat, ((r + 1 : Nat) : Int) ≤ j → -1099511627776 ≤ rg (rs t.L r (rg t.L r - rg f.L r)) j ∧ rg (rs t.L r (rg t.L r - rg f.L r)) j ≤ 1099511627776 := fun j hj2 => by
        rw [rg_rs (by omega), if_neg (by omega)]
        exact h10 j (by omega)
      refine rd_dec ⟨by omega, by omega⟩ (rd_dec (by omega) (rd_dec ⟨by omega, by omega⟩ (rd_dec (by omega) (rd_dec ⟨by omega, by omega⟩ (rd_dec (by omega) (rd_again ((need_yes ⟨rfl, rfl, by simp only [I_i, L_l, len_rs], by simp only [I_i, L_l, len_rs], by simp only [L_l, len_rs]; exact h5, by simp only [L_l, len_rs]; exact h6, by simp only [I_i]; omega, by simp only [I_i, L_l, len_rs]; omega, h9, hnx⟩).trans ?_) ?_))))))
      · simp only [I_i, L_l, len_rs, Int.toNat_natCast]
        exact h
      · simp only [List.getD_cons_zero, List.getD_cons_succ, I_i, hj, h4, hr]
        rw [if_neg (by omega), if_neg (by omega)]
        omega
    · rw [show t.L.length - r = 0 by omega] at h
      exact h
  · rename_i j e k i
    obtain ⟨hp, h⟩ := need_some h
    rw [yes_iff] at hp
    obtain ⟨hj, h2, h3⟩ := hp
    have hb := big_eq
    refine ⟨by rw [fuelC]; simp [hj], ?_⟩
    rw [roundTK_head (j := j) (n := 0) hj (by decide), show roundTK C (mkTab sp39 lp39 sw39) 39 (loopOf C.P 39 3) 0 l39_3 [.i 0, e, k, i] = _ from t39_3_0 e k i]
    exact rd_neg (by omega) (rd_out h)
  · cases h
theorem ok39 (n : Nat) : FnOK C (n + 7) 39 (mkF s39 G39) := by
  refine fn_ofS hC (sp := sp39) (lp := lp39) (sw := sw39) ⟨ok65 n, trivial⟩ trivial (by kernel_rfl) [3] (by kernel_rfl) (by kernel_rfl) (fun k hk L hL => by simp at hk; subst hk; cases hL; exact ok39_3 n) fun ds rr h => ?_
  unfold G39 at h
  split at h
  · rename_i n l x
    obtain ⟨hp, h⟩ := need_some h
    rw [yes_iff] at hp
    have h1 := hp
    refine (congrArg T.run (t39 n l x)).trans ?_
    rw [← h]
    refine go_yes h1 (go_ite (fun c => ?_) fun c => by rw [c]; exact go_yes ⟨rfl, rfl, rfl⟩ rfl)
    rw [c, run_true]
    obtain ⟨hn, hw⟩ := Bool.and_eq_true_iff.1 c
    have hp : netP n.I l.L := hn
    have k1 := (net_of hp).1
    obtain ⟨x1, x2⟩ := Lite.within_iff.1 hw
    refine go_ite (fun c2 => ?_) fun c2 => by rw [c2]; exact go_yes ⟨rfl, rfl, rfl⟩ rfl
    obtain ⟨b1, b2, b3, b4, b5⟩ := both_lat hp x1 c2
    have hr : (pushR n.I (allL n.I l.L) (zeros n.I)).2.2 < 0 := of_decide_eq_true (Bool.and_eq_true_iff.1 c2).1
    obtain ⟨f1, f2⟩ := push_first hp hr
    have k2 := (net_of hp).2.1
    have hlen : (latR n.I (allL n.I l.L) x.I).1.length = n.I.toNat := (len_roundsL _ _ _).trans (len_lastR k1 x.I)
    rw [c2, run_true]
    refine go_yes ⟨rfl, by omega, by omega, by omega, by omega, by omega, by omega, by omega, fun j => ?_, fun j _ => ?_⟩ ?_
    · have := f1 j; have := b3 j; have := b5 j; omega
    · have := f1 j; have := b3 j; have := b5 j; omega
    · simp only [Int.toNat_natCast, hlen, Int.toNat_zero, Nat.sub_zero]
      rw [show ((n.I.toNat : Nat) : Int) = n.I by omega]
  · cases h
theorem ok40_4 (n : Nat) : LoopSim C (n + 1) 40 (loopOf C.P 40 4) (mkL l40_4 G40_4) := by
  refine loop_ofK hC (sp := sp40) (lp := lp40) (sw := sw40) ⟨ok55 n, trivial⟩ trivial 0 [] (by kernel_rfl) rfl (fun k hk => by cases hk) (by kernel_rfl) (fun ds => ((ds.getD 0 default).I - (ds.getD 4 default).I).toNat) fun ds rr h => ?_
  unfold G40_4 at h
  split at h
  · rename_i n x m q i a t
    obtain ⟨hp, h⟩ := need_some h
    rw [yes_iff] at hp
    obtain ⟨h1, h2, h3, h4, h5, h6, h7⟩ := hp
    have hb := big_eq
    refine ⟨by rw [fuelC]; simp; omega, ?_⟩
    rw [show roundTK C (mkTab sp40 lp40 sw40) 40 (loopOf C.P 40 4) 0 l40_4 [n, x, m, q, i, a, t] = _ from t40_4 n x m q i a t]
    obtain ⟨j, hj⟩ : ∃ j : Nat, i.I = j := ⟨i.I.toNat, by omega⟩
    have e6 : ((n.I.toNat : Nat) : Int) = n.I := by omega
    have e7 : ((m.I.toNat : Nat) : Int) = m.I := by omega
    simp only [hj, h5, Int.toNat_natCast, upd1, rs_def, e6, e7] at h h3 h4 ⊢
    refine rd_if (fun hlt => ?_) fun hge => rd_out ?_
    · rw [wrap_succ (by omega)]
      have e7 : (n.I - (j : Int)).toNat = (n.I - ((j + 1 : Nat) : Int)).toNat + 1 := by omega
      rw [e7] at h
      refine rd_dec ⟨by omega, by omega⟩ (rd_dec (by omega) (rd_again ((need_yes ⟨h1, h2, by simp only [I_i]; omega, by simp only [I_i]; omega, by simp only [I_i], by simp only [L_l, len_rs]; exact h6, by simp only [I_i]; exact h7⟩).trans ?_) (show (n.I - ((j + 1 : Nat) : Int)).toNat < (n.I - i.I).toNat by omega)))
      simp only [I_i, L_l, Int.toNat_natCast]
      exact h
    · rw [show (n.I - (j : Int)).toNat = 0 by omega] at h
      exact h
  · cases h
theorem ok40_12 (n : Nat) : LoopSim C (n + 1) 40 (loopOf C.P 40 12) (mkL l40_12 G40_12) := by
  refine loop_ofK hC (sp := sp40) (lp := lp40) (sw := sw40) ⟨ok55 n, trivial⟩ trivial 0 [] (by kernel_rfl) rfl (fun k hk => by cases hk) (by kernel_rfl) (fun ds => ((ds.getD 1 default).I - (ds.getD 5 default).I).toNat) fun ds rr h => ?_
  unfold G40_12 at h
  split at h
  · rename_i n m q r s i a t
    obtain ⟨hp, h⟩ := need_some h
    rw [yes_iff] at hp
    obtain ⟨⟨g1, g2, g3, g4⟩, h2, h3, h4, h5, h6, h7⟩ := hp
    have hb := big_eq
    refine ⟨by rw [fuelC]; simp; omega, ?_⟩
    rw [show roundTK C (mkTab sp40 lp40 sw40) 40 (loopOf C.P 40 12) 0 l40_12 [n, m, q, r, s, i, a, t] = _ from t40_12 n m q r s i a t]
    have hg : goodL n.I a.L := ⟨g1, g2, g3, g4⟩
    obtain ⟨j, hj⟩ : ∃ j : Nat, i.I = j := ⟨i.I.toNat, by omega⟩
    
    simp only [hj, h2, h3, Int.toNat_natCast, upd1] at h h6 h7 ⊢
    refine rd_if (fun hlt => ?_) fun hge => rd_out ?_
    · have hjl : j < a.L.length := by omega
      obtain ⟨f1, f2, f3⟩ := g4 j hjl
      have e1 : ((a.L.getD j []).getD 0 default).I = lkF a.L j := rfl
      have e2 : ((a.L.getD j []).getD 1 default).I = lkT a.L j := rfl
      have e3 : ((a.L.getD j []).getD 2 default).I = lkW a.L j := rfl
      have h0 := room_rg h7 (by omega) (lkT a.L j).toNat
      have e6 : ((n.I.toNat : Nat) : Int) = n.I := by omega
      simp only [e1, e2, e3, rg_def, rs_def, e6]
      have w : IntKind.i64.wrap (rg t.L (lkT a.L j).toNat - lkW a.L j) = rg t.L (lkT a.L j).toNat - lkW a.L j := wrap_id (by omega) (by omega)
      rw [w, wrap_succ (by omega)]
      have e4 : a.L.length - j = (a.L.length - (j + 1)) + 1 := by omega
      rw [e4] at h
      simp only [passL] at h
      have hroom : room (stepL a.L j (t.L, !s.B)).1 ((a.L.length : Int) - ((j + 1 : Nat) : Int)) := room_stepL hg hjl (s := (t.L, !s.B)) h4 (by
        have : (a.L.length : Int) - ((j + 1 : Nat) : Int) + 1 = a.L.length - j := by omega
        rw [this]; exact h7)
      have hmu : ((a.L.length : Int) - ((j + 1 : Nat) : Int)).toNat < (m.I - i.I).toNat := by omega
      refine rd_dec ⟨by omega, by omega⟩ (rd_dec (by omega) (rd_dec ⟨by omega, by omega⟩ (rd_dec (by omega) (rd_dec ⟨by omega, by omega⟩ (rd_dec (by omega) (rd_if (fun hgt => ?_) fun hle => ?_))))))
      · have hst : stepL a.L j (t.L, !s.B) = (rs t.L (lkF a.L j).toNat (rg t.L (lkT a.L j).toNat - lkW a.L j), true) := if_pos hgt
        rw [hst] at h hroom
        refine rd_dec ⟨by omega, by omega⟩ (rd_dec (by omega) (rd_dec ⟨by omega, by omega⟩ (rd_dec (by omega) (rd_again ((need_yes ⟨hg, rfl, by simp only [I_i], by simp only [L_l, len_rs, I_i]; exact h4, by simp only [I_i]; omega, by simp only [I_i, L_l]; omega, hroom⟩).trans ?_) hmu))))
        simp only [L_l, I_i, B_b, Int.toNat_natCast]
        exact h
      · have hst : stepL a.L j (t.L, !s.B) = (t.L, !s.B) := if_neg hle
        rw [hst] at h hroom
        refine rd_again ((need_yes ⟨hg, rfl, by simp only [I_i], h4, by simp only [I_i]; omega, by simp only [I_i, L_l]; omega, hroom⟩).trans ?_) hmu
        simp only [L_l, I_i, B_b, Int.toNat_natCast]
        exact h
    · rw [← h]
      have e5 : a.L.length - j = 0 := by omega
      have e6 : ((n.I.toNat : Nat) : Int) = n.I := by omega
      simp only [e5, passL, run_leaf, e6, Bool.not_not]
  · cases h
theorem ok40_8 (n : Nat) : LoopSim C (n + 1) 40 (loopOf C.P 40 8) (mkL l40_8 G40_8) := by
  refine loop_ofK hC (sp := sp40) (lp := lp40) (sw := sw40) ⟨ok55 n, trivial⟩ trivial 0 [12] (by kernel_rfl) (by kernel_rfl) (fun k hk L hL => by simp at hk; subst hk; cases hL; exact ok40_12 n) (by kernel_rfl) (fun ds => ((ds.getD 0 default).I + 1 - (ds.getD 3 default).I).toNat) fun ds rr h => ?_
  unfold G40_8 at h
  split at h
  · rename_i n m q i a t
    obtain ⟨hp, h⟩ := need_some h
    rw [yes_iff] at hp
    obtain ⟨⟨g1, g2, g3, g4⟩, h2, h3, h4, h5, h6, h7⟩ := hp
    have hb := big_eq
    refine ⟨by rw [fuelC]; simp; omega, ?_⟩
    rw [show roundTK C (mkTab sp40 lp40 sw40) 40 (loopOf C.P 40 8) 0 l40_8 [n, m, q, i, a, t] = _ from t40_8 n m q i a t]
    have hg : goodL n.I a.L := ⟨g1, g2, g3, g4⟩
    obtain ⟨j, hj⟩ : ∃ j : Nat, i.I = j := ⟨i.I.toNat, by omega⟩
    
    have e6 : ((n.I.toNat : Nat) : Int) = n.I := by omega
    simp only [hj, h2, h3, Int.toNat_zero, Int.toNat_natCast, Nat.sub_zero, Int.sub_zero, e6, rg_def, Bool.not_true] at h h6 h7 ⊢
    refine rd_if (fun hlt => ?_) fun hge => rd_out ?_
    · have e7 : (n.I + 1 - (j : Int)).toNat = (n.I + 1 - ((j + 1 : Nat) : Int)).toNat + 1 := by omega
      rw [e7] at h
      simp only [roundsL] at h
      have hr1 : room t.L (a.L.length * (n.I + 1 - ((j + 1 : Nat) : Int)) + (a.L.length : Int)) := by
        have : (a.L.length : Int) * (n.I + 1 - ((j + 1 : Nat) : Int)) + a.L.length = a.L.length * (n.I + 1 - j) := by
          rw [show n.I + 1 - (j : Int) = (n.I + 1 - ((j + 1 : Nat) : Int)) + 1 by omega, Int.mul_add, Int.mul_one]
        rw [this]; exact h7
      have hr0 : room t.L (a.L.length : Int) := by
        obtain ⟨M, m1, m2⟩ := hr1
        have : 0 ≤ (a.L.length : Int) * (n.I + 1 - ((j + 1 : Nat) : Int)) := Int.mul_nonneg (by omega) (by omega)
        exact ⟨M, m1, by rw [Int.mul_add] at m2; omega⟩
      have hr2 := room_passL hg a.L.length 0 (by omega) (s := (t.L, false)) h4 hr1
      have hl2 := len_passL a.L a.L.length 0 (t.L, false)
      refine rd_yes ⟨hg, by trivial, by trivial, h4, by omega, by omega, hr0⟩ (rd_not (fun hc => rd_dec ⟨by omega, by omega⟩ (rd_dec (by simp only [hl2]; omega) (rd_out ?_))) fun hc => ?_)
      · simp only [hc, Bool.false_eq_true, if_false] at h
        exact h
      · simp only [hc, if_true] at h
        rw [wrap_succ (by omega)]
        refine rd_again ((need_yes ⟨hg, by simp only [I_i, L_l], by simp only [I_i], by simp only [L_l, I_i, hl2]; exact h4, by simp only [I_i]; omega, by simp only [I_i]; omega, by simp only [L_l, I_i]; exact hr2⟩).trans ?_) (show (n.I + 1 - ((j + 1 : Nat) : Int)).toNat < (n.I + 1 - i.I).toNat by omega)
        simp only [L_l, I_i]
        exact h
    · have e5 : (n.I + 1 - (j : Int)).toNat = 0 := by omega
      simp only [e5, roundsL] at h
      exact h
  · cases h
theorem ok40 (n : Nat) : FnOK C (n + 2) 40 (mkF s40 G40) := by
  refine fn_ofS hC (sp := sp40) (lp := lp40) (sw := sw40) ⟨ok55 n, trivial⟩ trivial (by kernel_rfl) [4, 8] (by kernel_rfl) (by kernel_rfl) (fun k hk L hL => by
      simp at hk
      rcases hk with rfl | rfl <;> cases hL
      · exact ok40_4 n
      · exact ok40_8 n) fun ds rr h => ?_
  unfold G40 at h
  split at h
  · rename_i n l x
    obtain ⟨hp, h⟩ := need_some h
    rw [yes_iff] at hp
    obtain ⟨hp, h2, h3⟩ := hp
    refine (congrArg T.run (t40 n l x)).trans ?_
    rw [← h]
    have hb := big_eq
    obtain ⟨k1, k2, k3, k4⟩ := net_of hp
    have hg := good_all hp
    have hla := len_allL n.I l.L
    have ez : List.replicate n.I.toNat [D.i 0] = zeros n.I := rfl
    have e6 : ((n.I.toNat : Nat) : Int) = n.I := by omega
    have e7 : (n.I + 1 - 0).toNat = n.I.toNat + 1 := by omega
    have hlz := len_zeros n.I
    have hll := len_lastR k1 x.I
    simp only [ez, bytes3, Int.toNat_natCast, show (1 : Int).toNat = 1 from rfl, fill_last k1, e6, e7]
    refine go_yes hp (go_dec ⟨by omega, by trivial, by omega, by omega⟩ (go_yes ⟨k1, k2, by omega, by omega, by omega, by omega, by omega⟩ (go_yes ⟨hg, by trivial, by trivial, by omega, by omega, by omega, room_last h2 h3 (mul_room hg (by omega) (by omega))⟩ ?_)))
    rfl
  · cases h
end Go.Proofs.Ytipbcpobnciccaa
