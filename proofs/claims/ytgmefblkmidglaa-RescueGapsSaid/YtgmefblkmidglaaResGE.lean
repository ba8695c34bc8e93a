/-
  The last second at which a road can be entered, and networks backwards: who must be there by a second.
  Shapes of arguments, results and loops. Written by program.
  Vehicles and zones: what is as defined.
  Tables. Written by program.
  What the rounds and the functions come to. Written by program.
  The checks of vehicles and zones compute what their words say.
  Shapes of arguments, results and loops. Written by program.
  Searches backwards: what they come to.
  Tables. Written by program.
  What the rounds and the functions come to. Written by program.
  Searches backwards compute what their words say.
-/
import Derived.Test.YtgmefblkmidglaaResGD
import Derived.Test.YtgmefblkmidglaaResGC
import Derived.Test.YtgmefblkmidglaaResGB
namespace Go.Proofs.Ytgmefblkmidglaa
open Go.Lite
set_option linter.unusedVariables false
noncomputable section
/-- From the last one of k closings on, down to the first one. -/
def leavF (l : List (List D)) (c : Int) : Nat → Int → Int
  | 0, s => s
  | k + 1, s => leavF l c k (if s + c > ix (l.getD k []) 0 ∧ s < ix (l.getD k []) 1 then ix (l.getD k []) 0 - c else s)
def leaW (c : List D) (t : Int) : Int := leavF (lx c 3) (ix c 2) (lx c 3).length t
/-- What is yielded from a place, backwards. -/
def backF (r : List (List D)) (v t : Int) : Nat → Nat → List (List D)
  | _, 0 => []
  | i, k + 1 => if ix (r.getD i []) 1 = v then [.i (ix (r.getD i []) 0), .i (-(leaW (r.getD i []) (-t - ix (r.getD i []) 2)))] :: backF r v t (i + 1) k else backF r v t (i + 1) k
def nxB (r : List (List D)) : Int → Int → List (List D) := fun v t => backF r v t 0 r.length
def edB (r : List (List D)) : Ed := ⟨r.length, fun j => ix (r.getD j []) 1, fun j => ix (r.getD j []) 0, fun j t => -(leaW (r.getD j []) (-t - ix (r.getD j []) 2))⟩
end
theorem ent_split {l : List (List D)} {c : Int} : ∀ (k i : Nat) (s : Int), entF l c i (k + 1) s = (fun s => if s + c > ix (l.getD (i + k) []) 0 ∧ s < ix (l.getD (i + k) []) 1 then ix (l.getD (i + k) []) 1 else s) (entF l c i k s)
  | 0, i, s => rfl
  | k + 1, i, s => by
    have h := ent_split (l := l) (c := c) k (i + 1) (if s + c > ix (l.getD i []) 0 ∧ s < ix (l.getD i []) 1 then ix (l.getD i []) 1 else s)
    rw [show i + 1 + k = i + (k + 1) by omega] at h
    exact h
theorem ent_leav {l : List (List D)} {c : Int} (h : ∀ j, 0 < j + c → True) : ∀ (k : Nat) (t y : Int), entF l c 0 k t ≤ y ↔ t ≤ leavF l c k y
  | 0, _, _ => Iff.rfl
  | k + 1, t, y => by
    rw [ent_split, Nat.zero_add]
    simp only [leavF]
    rw [← ent_leav h k]
    generalize entF l c 0 k t = s
    split <;> split <;> omega
theorem ent_lea {c : List D} {t y : Int} : entW c t ≤ y ↔ t ≤ leaW c y := ent_leav (fun _ _ => trivial) _ _ _
theorem leav_le {l : List (List D)} {c : Int} : ∀ (k : Nat) (s : Int), leavF l c k s ≤ s
  | 0, _ => Int.le_refl _
  | k + 1, s => by
    simp only [leavF]
    refine Int.le_trans (leav_le k _) ?_
    split <;> omega
theorem leav_ge {l : List (List D)} {c : Int} (h : ∀ j, 0 ≤ ix (l.getD j []) 0) : ∀ (k : Nat) (s : Int), min s (-c) ≤ leavF l c k s
  | 0, s => by simp only [leavF]; omega
  | k + 1, s => by
    simp only [leavF]
    have := h k
    refine Int.le_trans ?_ (leav_ge h k _)
    split <;> omega
theorem leav_mono {l : List (List D)} {c : Int} : ∀ (k : Nat) (s s' : Int), s ≤ s' → leavF l c k s ≤ leavF l c k s'
  | 0, _, _, h => h
  | k + 1, s, s', h => by
    simp only [leavF]
    refine leav_mono k _ _ ?_
    split <;> split <;> omega
theorem leaW_parts {n : Int} {c : List D} (h : roadB n c = true) : (∀ t, leaW c t ≤ t) ∧ (∀ t, min t (-10000) ≤ leaW c t) ∧ ∀ t t', t ≤ t' → leaW c t ≤ leaW c t' := by
  obtain ⟨-, -, h2, -, h3⟩ := road_parts h
  refine ⟨fun t => leav_le _ _, fun t => ?_, fun t t' ht => leav_mono _ _ _ ht⟩
  have := leav_ge (l := lx c 3) (c := ix c 2) (fun j => (cl_at h3 j).1.1) (lx c 3).length t
  unfold leaW
  omega
theorem edB_ok {n : Int} {r : List (List D)} (h : netB n r = true) : (edB r).OK n.toNat 100000 := by
  obtain ⟨h1, h2, h3⟩ := net_parts h
  refine ⟨fun j hj => ?_, fun j hj => ?_, fun j hj t => ?_, fun j hj t t' ht => ?_, fun j hj t => ?_⟩
  · have := (road_parts (h3 j hj)).2.1
    show 0 ≤ ix (r.getD j []) 1 ∧ ix (r.getD j []) 1 < (n.toNat : Int)
    omega
  · have := (road_parts (h3 j hj)).1
    show 0 ≤ ix (r.getD j []) 0 ∧ ix (r.getD j []) 0 < (n.toNat : Int)
    omega
  · have := (road_parts (h3 j hj)).2.2.1
    have := (leaW_parts (h3 j hj)).1 (-t - ix (r.getD j []) 2)
    show t < -(leaW (r.getD j []) (-t - ix (r.getD j []) 2))
    omega
  · have := (leaW_parts (h3 j hj)).2.2 (-t' - ix (r.getD j []) 2) (-t - ix (r.getD j []) 2) (by omega)
    show -(leaW (r.getD j []) (-t - ix (r.getD j []) 2)) ≤ -(leaW (r.getD j []) (-t' - ix (r.getD j []) 2))
    omega
  · have := (road_parts (h3 j hj)).2.2.1
    have := (leaW_parts (h3 j hj)).2.1 (-t - ix (r.getD j []) 2)
    show -(leaW (r.getD j []) (-t - ix (r.getD j []) 2)) ≤ max t 100000 + 10000
    omega
theorem back_mem {r : List (List D)} {v t : Int} : ∀ (k i : Nat), ∀ e ∈ backF r v t i k, ∃ j, i ≤ j ∧ j < i + k ∧ ix (r.getD j []) 1 = v ∧ ix e 0 = ix (r.getD j []) 0 ∧ ix e 1 = -(leaW (r.getD j []) (-t - ix (r.getD j []) 2))
  | 0, _, e, h => by simp [backF] at h
  | k + 1, i, e, h => by
    simp only [backF] at h
    split at h
    · rename_i hv
      rcases List.mem_cons.1 h with rfl | h
      · exact ⟨i, Nat.le_refl _, by omega, hv, rfl, rfl⟩
      · obtain ⟨j, h1, h2, h3⟩ := back_mem k (i + 1) e h
        exact ⟨j, by omega, by omega, h3⟩
    · obtain ⟨j, h1, h2, h3⟩ := back_mem k (i + 1) e h
      exact ⟨j, by omega, by omega, h3⟩
theorem back_of {r : List (List D)} {v t : Int} : ∀ (k i j : Nat), i ≤ j → j < i + k → ix (r.getD j []) 1 = v → ∃ e ∈ backF r v t i k, ix e 0 = ix (r.getD j []) 0 ∧ ix e 1 = -(leaW (r.getD j []) (-t - ix (r.getD j []) 2))
  | 0, i, j, h1, h2, _ => by omega
  | k + 1, i, j, h1, h2, hv => by
    simp only [backF]
    by_cases e : j = i
    · subst e
      rw [if_pos hv]
      exact ⟨_, List.mem_cons_self, rfl, rfl⟩
    · obtain ⟨x, hx, h3⟩ := back_of k (i + 1) j (by omega) (by omega) hv
      refine ⟨x, ?_, h3⟩
      split
      · exact List.mem_cons_of_mem _ hx
      · exact hx
theorem nxB_ok (r : List (List D)) : Yields (edB r) (nxB r) := fun v t => by
  refine ⟨fun e he => ?_, fun j hj hv => back_of _ _ j (Nat.zero_le _) (by show j < 0 + r.length; have : j < r.length := hj; omega) hv⟩
  obtain ⟨j, -, h1, h2, h3, h4⟩ := back_mem _ _ e he
  exact ⟨j, by show j < r.length; omega, h2, h3, h4⟩
/-- Who reaches a place by a second left early enough. -/
theorem walk_back {r : List (List D)} {v t w s : Int} (h : Walk (edR r) v t w s) : ∀ b, s ≤ b → ∃ x, Walk (edB r) w (-b) v x ∧ x ≤ -t := by
  induction h with
  | here => exact fun b hb => ⟨-b, .here, by omega⟩
  | @step s0 j hw hj ih =>
    intro b hb
    have hb : entW (r.getD j []) s0 + ix (r.getD j []) 2 ≤ b := hb
    obtain ⟨x, h1, h2⟩ := ih (leaW (r.getD j []) (b - ix (r.getD j []) 2)) (ent_lea.1 (by omega))
    refine ⟨x, walk_trans (.step (E := edB r) (j := j) .here hj) ?_, h2⟩
    have e : (edB r).fn j (-b) = -(leaW (r.getD j []) (b - ix (r.getD j []) 2)) := by
      show -(leaW (r.getD j []) (- -b - ix (r.getD j []) 2)) = _
      rw [Int.neg_neg]
    rw [e]
    exact h1
theorem walk_fore {r : List (List D)} {w b v x : Int} (h : Walk (edB r) w (-b) v x) : ∀ t, x ≤ -t → ∃ s, Walk (edR r) v t w s ∧ s ≤ b := by
  induction h with
  | here => exact fun t ht => ⟨t, .here, by omega⟩
  | @step x0 j hw hj ih =>
    intro t ht
    have ht : -(leaW (r.getD j []) (-x0 - ix (r.getD j []) 2)) ≤ -t := ht
    have h0 : entW (r.getD j []) t ≤ -x0 - ix (r.getD j []) 2 := ent_lea.2 (by omega)
    obtain ⟨s, h1, h2⟩ := ih (entW (r.getD j []) t + ix (r.getD j []) 2) (by omega)
    exact ⟨s, walk_trans (.step (E := edR r) (j := j) .here hj) h1, h2⟩
/-- One is there by a second iff one left by the last second. -/
theorem least_back {r : List (List D)} {n : Nat} {v t w b : Int} {d d' : Nat → Int} (hv : 0 ≤ v ∧ v < n) (hw : 0 ≤ w ∧ w < n) (hb : b < INF) (ht : -INF < t) (hd : Least (edR r) n v t d) (hd' : Least (edB r) n w (-b) d') : d w.toNat ≤ b ↔ t ≤ -(d' v.toNat) := by
  constructor
  · intro h
    have h1 := hd.2.1 w.toNat (by omega) (by omega)
    rw [show ((w.toNat : Nat) : Int) = w by omega] at h1
    obtain ⟨x, h2, h3⟩ := walk_back h1 b h
    have := hd'.2.2 _ _ h2
    omega
  · intro h
    have h1 := hd'.2.1 v.toNat (by omega) (by omega)
    rw [show ((v.toNat : Nat) : Int) = v by omega] at h1
    obtain ⟨s, h2, h3⟩ := walk_fore h1 t (by omega)
    have := hd.2.2 _ _ h2
    omega
/-- Whoever starts later does not arrive earlier, and reaches the same places. -/
theorem walk_later {E : Ed} {n : Nat} {H : Int} (hE : E.OK n H) {v t t' w s : Int} (h : Walk E v t w s) : t ≤ t' → ∃ s', Walk E v t' w s' ∧ s ≤ s' := by
  intro ht
  induction h with
  | here => exact ⟨t', .here, ht⟩
  | @step s0 j hw hj ih =>
    obtain ⟨s', h1, h2⟩ := ih
    exact ⟨_, .step h1 hj, hE.mono j hj _ _ h2⟩
theorem walk_sooner {E : Ed} {n : Nat} {H : Int} (hE : E.OK n H) {v t t' w s : Int} (h : Walk E v t' w s) : t ≤ t' → ∃ s', Walk E v t w s' ∧ s' ≤ s := by
  intro ht
  induction h with
  | here => exact ⟨t, .here, ht⟩
  | @step s0 j hw hj ih =>
    obtain ⟨s', h1, h2⟩ := ih
    exact ⟨_, .step h1 hj, hE.mono j hj _ _ h2⟩
end Go.Proofs.Ytgmefblkmidglaa

namespace Go.Proofs.Ytgmefblkmidglaa
open Go.Lite
def s78 : Sig := ⟨[.k (.int .i64)], [(.k .bool, [])]⟩
def s77 : Sig := ⟨[.agg [.k (.int .i64), .k (.int .i64), .k (.int .i64), .k (.int .i64)], .eptr [.k (.int .i64), .k (.ro [.int .i64, .int .i64, .int .i64, .ro [.int .i64, .int .i64]])]], [(.k .bool, [])]⟩
def s80 : Sig := ⟨[.agg [.k (.int .i64), .k (.int .i64), .k (.int .i64)], .eptr [.k (.int .i64), .k (.ro [.int .i64, .int .i64, .int .i64, .ro [.int .i64, .int .i64]])]], [(.k .bool, [])]⟩
def s94 : Sig := ⟨[.k (.ro [.int .i64, .int .i64, .int .i64, .int .i64]), .fn 77 [] [.eptr [.k (.int .i64), .k (.ro [.int .i64, .int .i64, .int .i64, .ro [.int .i64, .int .i64]])]]], [(.k (.int .i64), [])]⟩
def l94_2 : LSig := mkLS [0, 1, 7, 8] [(19, [(0, .k (.ro [.int .i64, .int .i64, .int .i64, .int .i64])), (1, .fn 77 [] [.eptr [.k (.int .i64), .k (.ro [.int .i64, .int .i64, .int .i64, .ro [.int .i64, .int .i64]])]]), (7, .k (.int .i64)), (8, .k (.int .i64))], [])] [(.ret, [4], [(19, [(4, .k (.int .i64))], [])]), (.exit 0, [], [(19, [], [])])]
def s95 : Sig := ⟨[.k (.ro [.int .i64, .int .i64, .int .i64]), .fn 80 [] [.eptr [.k (.int .i64), .k (.ro [.int .i64, .int .i64, .int .i64, .ro [.int .i64, .int .i64]])]]], [(.k (.int .i64), [])]⟩
def l95_2 : LSig := mkLS [0, 1, 7, 8] [(19, [(0, .k (.ro [.int .i64, .int .i64, .int .i64])), (1, .fn 80 [] [.eptr [.k (.int .i64), .k (.ro [.int .i64, .int .i64, .int .i64, .ro [.int .i64, .int .i64]])]]), (7, .k (.int .i64)), (8, .k (.int .i64))], [])] [(.ret, [4], [(19, [(4, .k (.int .i64))], [])]), (.exit 0, [], [(19, [], [])])]
def s76 : Sig := ⟨[.k (.ro [.int .i64, .int .i64, .int .i64, .int .i64]), .fn 77 [] [.eptr [.k (.int .i64), .k (.ro [.int .i64, .int .i64, .int .i64, .ro [.int .i64, .int .i64]])]]], [(.k .bool, [])]⟩
def s79 : Sig := ⟨[.k (.ro [.int .i64, .int .i64, .int .i64]), .fn 80 [] [.eptr [.k (.int .i64), .k (.ro [.int .i64, .int .i64, .int .i64, .ro [.int .i64, .int .i64]])]]], [(.k .bool, [])]⟩
def s52 : Sig := ⟨[.agg [.k (.int .i64), .k (.ro [.int .i64, .int .i64, .int .i64, .ro [.int .i64, .int .i64]])], .k (.ro [.int .i64, .int .i64, .int .i64, .int .i64]), .k (.int .i64), .k (.ro [.int .i64, .int .i64, .int .i64]), .k (.int .i64)], [(.k .bool, [])]⟩
def s28 : Sig := ⟨[.k (.int .i64), .k (.ro [.int .i64, .int .i64, .int .i64, .int .i64])], [(.k .bool, [])]⟩
def l28_2 : LSig := mkLS [0, 1, 5] [(46, [(0, .k (.int .i64)), (1, .k (.ro [.int .i64, .int .i64, .int .i64, .int .i64])), (5, .k (.int .i64))], [])] [(.ret, [4], [(46, [(4, .k .bool)], [])]), (.exit 0, [], [(46, [], [])])]
def s29 : Sig := ⟨[.k (.int .i64), .k (.ro [.int .i64, .int .i64, .int .i64])], [(.k .bool, [])]⟩
def l29_2 : LSig := mkLS [0, 1, 5] [(38, [(0, .k (.int .i64)), (1, .k (.ro [.int .i64, .int .i64, .int .i64])), (5, .k (.int .i64))], [])] [(.ret, [4], [(38, [(4, .k .bool)], [])]), (.exit 0, [1], [(38, [(1, .k (.ro [.int .i64, .int .i64, .int .i64]))], [])])]
def s26 : Sig := ⟨[.k (.ro [.int .i64, .int .i64, .int .i64, .int .i64]), .k (.ro [.int .i64, .int .i64, .int .i64]), .k (.int .i64), .k (.int .i64)], [(.k .bool, [])]⟩
end Go.Proofs.Ytgmefblkmidglaa

namespace Go.Proofs.Ytgmefblkmidglaa
open Go.Lite
noncomputable section
def vehB (n : Int) (c : List D) : Bool := decide ((0 ≤ ix c 0 ∧ ix c 0 < n) ∧ (0 ≤ ix c 1 ∧ ix c 1 ≤ 65535) ∧ (0 ≤ ix c 2 ∧ ix c 2 ≤ ix c 3) ∧ ix c 3 ≤ 100000)
def zonB (n : Int) (c : List D) : Bool := decide ((0 ≤ ix c 0 ∧ ix c 0 < n) ∧ (0 ≤ ix c 1 ∧ ix c 1 ≤ 65535) ∧ 0 ≤ ix c 2 ∧ ix c 2 ≤ 10000)
def mk4 (a b c d : D) : List D := [.i a.I, .i b.I, .i c.I, .i d.I]
def mk3 (a b c : D) : List D := [.i a.I, .i b.I, .i c.I]
def vehL (n : Int) (v : List (List D)) (i : Nat) : Bool := vehB n (v.getD i [])
def zonL (n : Int) (z : List (List D)) (i : Nat) : Bool := zonB n (z.getD i [])
def vehs (n : Int) (v : List (List D)) : Bool := allFrom (vehL n v) 0 v.length
def zons (n : Int) (z : List (List D)) : Bool := allFrom (zonL n z) 0 z.length
def coverB (n : Int) (r v : List (List D)) (most : Int) (z : List (List D)) (h : Int) : Bool := netB n r && decide ((v.length : Int) ≤ most ∧ z.length ≤ 100 ∧ 0 ≤ h ∧ h ≤ 100000) && vehs n v && zons n z
def G78 (ds : List D) : T (List D) := match ds with
  | [x] => .leaf [.b (within x.I 0 65535)]
  | _ => .fail
def G77 (ds : List D) : T (List D) := match ds with
  | [a, b, c, d, n, _] => .need (yes (1 ≤ n.I ∧ n.I ≤ 200)) (.leaf [.b (!vehB n.I (mk4 a b c d))])
  | _ => .fail
def G80 (ds : List D) : T (List D) := match ds with
  | [a, b, c, n, _] => .need (yes (1 ≤ n.I ∧ n.I ≤ 200)) (.leaf [.b (!zonB n.I (mk3 a b c))])
  | _ => .fail
def G94 (ds : List D) : T (List D) := match ds with
  | [l, n, _] => .need (yes ((1 ≤ n.I ∧ n.I ≤ 200) ∧ l.L.length < big)) (.leaf [.i (firstFrom (fun j => !vehL n.I l.L j) 0 l.L.length)])
  | _ => .fail
def G94_2 (ds : List D) : T (Ex × List D) := match ds with
  | [l, n, _, m, i] => .need (yes ((1 ≤ n.I ∧ n.I ≤ 200) ∧ l.L.length < big ∧ m.I = l.L.length ∧ 0 ≤ i.I ∧ i.I ≤ l.L.length))
      (.ite (decide (firstFrom (fun j => !vehL n.I l.L j) i.I.toNat (l.L.length - i.I.toNat) ≥ 0)) (.leaf (.ret, [.i (firstFrom (fun j => !vehL n.I l.L j) i.I.toNat (l.L.length - i.I.toNat))])) (.leaf (.exit 0, [])))
  | _ => .fail
def G95 (ds : List D) : T (List D) := match ds with
  | [l, n, _] => .need (yes ((1 ≤ n.I ∧ n.I ≤ 200) ∧ l.L.length < big)) (.leaf [.i (firstFrom (fun j => !zonL n.I l.L j) 0 l.L.length)])
  | _ => .fail
def G95_2 (ds : List D) : T (Ex × List D) := match ds with
  | [l, n, _, m, i] => .need (yes ((1 ≤ n.I ∧ n.I ≤ 200) ∧ l.L.length < big ∧ m.I = l.L.length ∧ 0 ≤ i.I ∧ i.I ≤ l.L.length))
      (.ite (decide (firstFrom (fun j => !zonL n.I l.L j) i.I.toNat (l.L.length - i.I.toNat) ≥ 0)) (.leaf (.ret, [.i (firstFrom (fun j => !zonL n.I l.L j) i.I.toNat (l.L.length - i.I.toNat))])) (.leaf (.exit 0, [])))
  | _ => .fail
def G76 (ds : List D) : T (List D) := match ds with
  | [l, n, _] => .need (yes ((1 ≤ n.I ∧ n.I ≤ 200) ∧ l.L.length < big)) (.leaf [.b (!vehs n.I l.L)])
  | _ => .fail
def G79 (ds : List D) : T (List D) := match ds with
  | [l, n, _] => .need (yes ((1 ≤ n.I ∧ n.I ≤ 200) ∧ l.L.length < big)) (.leaf [.b (!zons n.I l.L)])
  | _ => .fail
def G52 (ds : List D) : T (List D) := match ds with
  | [n, r, v, most, z, h] => .need (yes (most.I ≤ 1000)) (.leaf [.b (coverB n.I r.L v.L most.I z.L h.I)])
  | _ => .fail
def G28 (ds : List D) : T (List D) := match ds with
  | [n, v] => .need (yes ((1 ≤ n.I ∧ n.I ≤ 200) ∧ v.L.length < big)) (.leaf [.b (vehs n.I v.L)])
  | _ => .fail
def G28_2 (ds : List D) : T (Ex × List D) := match ds with
  | [n, v, i] => .need (yes ((1 ≤ n.I ∧ n.I ≤ 200) ∧ v.L.length < big ∧ 0 ≤ i.I ∧ i.I ≤ v.L.length)) (.ite (allFrom (vehL n.I v.L) i.I.toNat (v.L.length - i.I.toNat)) (.leaf (.exit 0, [])) (.leaf (.ret, [.b false])))
  | _ => .fail
def G29 (ds : List D) : T (List D) := match ds with
  | [n, z] => .need (yes ((1 ≤ n.I ∧ n.I ≤ 200) ∧ z.L.length < big)) (.leaf [.b (zons n.I z.L && decide (z.L.length ≤ 100))])
  | _ => .fail
def G29_2 (ds : List D) : T (Ex × List D) := match ds with
  | [n, z, i] => .need (yes ((1 ≤ n.I ∧ n.I ≤ 200) ∧ z.L.length < big ∧ 0 ≤ i.I ∧ i.I ≤ z.L.length)) (.ite (allFrom (zonL n.I z.L) i.I.toNat (z.L.length - i.I.toNat)) (.leaf (.exit 0, [.l z.L])) (.leaf (.ret, [.b false])))
  | _ => .fail
def fewC (v z h most : Int) : Bool := decide ((v ≤ 6 ∨ most < v ∧ v < 200) ∧ (z ≤ 5 ∨ 100 < z ∧ z < 200) ∧ (h ≤ 40 ∨ 100000 < h))
def G26 (ds : List D) : T (List D) := match ds with
  | [v, z, h, most] => .leaf [.b (fewC v.L.length z.L.length h.I most.I)]
  | _ => .fail
end
end Go.Proofs.Ytgmefblkmidglaa

namespace Go.Proofs.Ytgmefblkmidglaa
open Go.Lite
noncomputable def sp78 : SpL := [(45, mkF s45 G45)]
noncomputable def lp78 : LpL := []
noncomputable def sw78 : SwL := []
noncomputable def tab78 : Tab := mkTab sp78 lp78 sw78
noncomputable def sp77 : SpL := [(45, mkF s45 G45), (78, mkF s78 G78)]
noncomputable def lp77 : LpL := []
noncomputable def sw77 : SwL := []
noncomputable def tab77 : Tab := mkTab sp77 lp77 sw77
noncomputable def sp80 : SpL := [(45, mkF s45 G45), (78, mkF s78 G78)]
noncomputable def lp80 : LpL := []
noncomputable def sw80 : SwL := []
noncomputable def tab80 : Tab := mkTab sp80 lp80 sw80
noncomputable def sp94 : SpL := [(77, mkF s77 G77)]
noncomputable def lp94 : LpL := [(2, mkL l94_2 G94_2)]
noncomputable def sw94 : SwL := []
noncomputable def tab94 : Tab := mkTab sp94 lp94 sw94
noncomputable def sp95 : SpL := [(80, mkF s80 G80)]
noncomputable def lp95 : LpL := [(2, mkL l95_2 G95_2)]
noncomputable def sw95 : SwL := []
noncomputable def tab95 : Tab := mkTab sp95 lp95 sw95
noncomputable def sp76 : SpL := [(94, mkF s94 G94), (77, mkF s77 G77)]
noncomputable def lp76 : LpL := []
noncomputable def sw76 : SwL := []
noncomputable def tab76 : Tab := mkTab sp76 lp76 sw76
noncomputable def sp79 : SpL := [(95, mkF s95 G95), (80, mkF s80 G80)]
noncomputable def lp79 : LpL := []
noncomputable def sw79 : SwL := []
noncomputable def tab79 : Tab := mkTab sp79 lp79 sw79
noncomputable def sp52 : SpL := [(18, mkF s18 G18), (45, mkF s45 G45), (76, mkF s76 G76), (79, mkF s79 G79), (77, mkF s77 G77), (80, mkF s80 G80)]
noncomputable def lp52 : LpL := []
noncomputable def sw52 : SwL := []
noncomputable def tab52 : Tab := mkTab sp52 lp52 sw52
noncomputable def sp28 : SpL := [(47, mkF s47 G47)]
noncomputable def lp28 : LpL := [(2, mkL l28_2 G28_2)]
noncomputable def sw28 : SwL := []
noncomputable def tab28 : Tab := mkTab sp28 lp28 sw28
noncomputable def sp29 : SpL := [(47, mkF s47 G47)]
noncomputable def lp29 : LpL := [(2, mkL l29_2 G29_2)]
noncomputable def sw29 : SwL := []
noncomputable def tab29 : Tab := mkTab sp29 lp29 sw29
noncomputable def sp26 : SpL := []
noncomputable def lp26 : LpL := []
noncomputable def sw26 : SwL := []
noncomputable def tab26 : Tab := mkTab sp26 lp26 sw26
end Go.Proofs.Ytgmefblkmidglaa

namespace Go.Proofs.Ytgmefblkmidglaa
open Go.Lite
set_option linter.unusedVariables false
set_option maxRecDepth 100000
theorem t78 (a : D) : fnT C tab78 78 s78 [a] =
  T.leaf [D.b (within (D.I a) (0 : Int) (65535 : Int))] := by kernel_rfl
theorem t77 (a b c d e f : D) : fnT C tab77 77 s77 [a, b, c, d, e, f] =
  T.ite (!within (D.I a) (0 : Int) (IntKind.wrap IntKind.i64 (D.I e - (1 : Int)))) (T.leaf [D.b true]) (T.ite (!within (D.I b) (0 : Int) (65535 : Int)) (T.leaf [D.b true]) (T.ite (!within (D.I c) (0 : Int) (D.I d)) (T.leaf [D.b true]) (T.leaf [D.b (decide (D.I d > (100000 : Int)))]))) := by kernel_rfl
theorem t80 (a b c d e : D) : fnT C tab80 80 s80 [a, b, c, d, e] =
  T.ite (!within (D.I a) (0 : Int) (IntKind.wrap IntKind.i64 (D.I d - (1 : Int)))) (T.leaf [D.b true]) (T.ite (!within (D.I b) (0 : Int) (65535 : Int)) (T.leaf [D.b true]) (T.leaf [D.b !within (D.I c) (0 : Int) (10000 : Int)])) := by kernel_rfl
theorem t94 (a b c : D) : fnT C tab94 94 s94 [a, b, c] =
  T.need (yes (((1 : Int) ≤ D.I b ∧ D.I b ≤ (200 : Int)) ∧ List.length (D.L a) < big ∧ (↑(List.length (D.L a)) : Int) = (↑(List.length (D.L a)) : Int) ∧ (0 : Int) ≤ (0 : Int) ∧ (0 : Int) ≤ (↑(List.length (D.L a)) : Int))) (T.ite (decide (firstFrom (fun j => !vehL (D.I b) (D.L a) j) (Int.toNat (0 : Int)) (List.length (D.L a) - Int.toNat (0 : Int)) ≥ (0 : Int))) (T.leaf [D.i (firstFrom (fun j => !vehL (D.I b) (D.L a) j) (Int.toNat (0 : Int)) (List.length (D.L a) - Int.toNat (0 : Int)))]) (T.leaf [D.i (-1 : Int)])) := by kernel_rfl
theorem t94_2 (a b c d e : D) : roundT C tab94 94 (loopOf C.P 94 2) l94_2 [a, b, c, d, e] =
  T.ite (decide (D.I e < D.I d)) (T.need (decide ((0 : Int) ≤ D.I e ∧ D.I e < (↑(List.length (D.L a)) : Int))) (T.need (yes ((1 : Int) ≤ D.I b ∧ D.I b ≤ (200 : Int))) (T.ite (!vehB (D.I b) (mk4 (D.i (D.I (List.getD (List.getD (D.L a) (Int.toNat (D.I e)) []) 0 default))) (D.i (D.I (List.getD (List.getD (D.L a) (Int.toNat (D.I e)) []) (0 + 1) default))) (D.i (D.I (List.getD (List.getD (D.L a) (Int.toNat (D.I e)) []) (0 + 1 + 1) default))) (D.i (D.I (List.getD (List.getD (D.L a) (Int.toNat (D.I e)) []) (0 + 1 + 1 + 1) default))))) (T.leaf (Rd.out Ex.ret [D.i (D.I e)])) (T.leaf (Rd.again [D.l (D.L a), D.i (D.I b), D.l (D.L c), D.i (D.I d), D.i (IntKind.wrap IntKind.i64 (D.I e + (1 : Int)))]))))) (T.leaf (Rd.out (Ex.exit 0) [])) := by kernel_rfl
theorem t95 (a b c : D) : fnT C tab95 95 s95 [a, b, c] =
  T.need (yes (((1 : Int) ≤ D.I b ∧ D.I b ≤ (200 : Int)) ∧ List.length (D.L a) < big ∧ (↑(List.length (D.L a)) : Int) = (↑(List.length (D.L a)) : Int) ∧ (0 : Int) ≤ (0 : Int) ∧ (0 : Int) ≤ (↑(List.length (D.L a)) : Int))) (T.ite (decide (firstFrom (fun j => !zonL (D.I b) (D.L a) j) (Int.toNat (0 : Int)) (List.length (D.L a) - Int.toNat (0 : Int)) ≥ (0 : Int))) (T.leaf [D.i (firstFrom (fun j => !zonL (D.I b) (D.L a) j) (Int.toNat (0 : Int)) (List.length (D.L a) - Int.toNat (0 : Int)))]) (T.leaf [D.i (-1 : Int)])) := by kernel_rfl
theorem t95_2 (a b c d e : D) : roundT C tab95 95 (loopOf C.P 95 2) l95_2 [a, b, c, d, e] =
  T.ite (decide (D.I e < D.I d)) (T.need (decide ((0 : Int) ≤ D.I e ∧ D.I e < (↑(List.length (D.L a)) : Int))) (T.need (yes ((1 : Int) ≤ D.I b ∧ D.I b ≤ (200 : Int))) (T.ite (!zonB (D.I b) (mk3 (D.i (D.I (List.getD (List.getD (D.L a) (Int.toNat (D.I e)) []) 0 default))) (D.i (D.I (List.getD (List.getD (D.L a) (Int.toNat (D.I e)) []) (0 + 1) default))) (D.i (D.I (List.getD (List.getD (D.L a) (Int.toNat (D.I e)) []) (0 + 1 + 1) default))))) (T.leaf (Rd.out Ex.ret [D.i (D.I e)])) (T.leaf (Rd.again [D.l (D.L a), D.i (D.I b), D.l (D.L c), D.i (D.I d), D.i (IntKind.wrap IntKind.i64 (D.I e + (1 : Int)))]))))) (T.leaf (Rd.out (Ex.exit 0) [])) := by kernel_rfl
theorem t76 (a b c : D) : fnT C tab76 76 s76 [a, b, c] =
  T.need (yes (((1 : Int) ≤ D.I b ∧ D.I b ≤ (200 : Int)) ∧ List.length (D.L a) < big)) (T.leaf [D.b (decide (firstFrom (fun j => !vehL (D.I b) (D.L a) j) 0 (List.length (D.L a)) ≥ (0 : Int)))]) := by kernel_rfl
theorem t79 (a b c : D) : fnT C tab79 79 s79 [a, b, c] =
  T.need (yes (((1 : Int) ≤ D.I b ∧ D.I b ≤ (200 : Int)) ∧ List.length (D.L a) < big)) (T.leaf [D.b (decide (firstFrom (fun j => !zonL (D.I b) (D.L a) j) 0 (List.length (D.L a)) ≥ (0 : Int)))]) := by kernel_rfl
theorem t52 (a b c d e f : D) : fnT C tab52 52 s52 [a, b, c, d, e, f] =
  T.ite ((if netB (D.I a) (D.L b) = true then (0 : Int) else (2 : Int)) != (0 : Int)) (T.leaf [D.b false]) (T.ite (decide ((↑(List.length (D.L c)) : Int) > D.I d)) (T.leaf [D.b false]) (T.ite (decide ((↑(List.length (D.L e)) : Int) > (100 : Int))) (T.leaf [D.b false]) (T.ite (!within (D.I f) (0 : Int) (100000 : Int)) (T.leaf [D.b false]) (T.need (yes (((1 : Int) ≤ D.I a ∧ D.I a ≤ (200 : Int)) ∧ List.length (D.L c) < big)) (T.ite (!vehs (D.I a) (D.L c)) (T.leaf [D.b false]) (T.need (yes (((1 : Int) ≤ D.I a ∧ D.I a ≤ (200 : Int)) ∧ List.length (D.L e) < big)) (T.leaf [D.b !!zons (D.I a) (D.L e)]))))))) := by kernel_rfl
theorem t28 (a b : D) : fnT C tab28 28 s28 [a, b] =
  T.need (yes (((1 : Int) ≤ D.I a ∧ D.I a ≤ (200 : Int)) ∧ List.length (D.L b) < big ∧ (0 : Int) ≤ (0 : Int) ∧ (0 : Int) ≤ (↑(List.length (D.L b)) : Int))) (T.ite (allFrom (vehL (D.I a) (D.L b)) (Int.toNat (0 : Int)) (List.length (D.L b) - Int.toNat (0 : Int))) (T.leaf [D.b true]) (T.leaf [D.b false])) := by kernel_rfl
theorem t28_2 (a b c : D) : roundT C tab28 28 (loopOf C.P 28 2) l28_2 [a, b, c] =
  T.ite (decide (D.I c < (↑(List.length (D.L b)) : Int))) (T.need (decide ((0 : Int) ≤ D.I c ∧ D.I c < (↑(List.length (D.L b)) : Int))) (T.ite (!within (D.I (List.getD (List.getD (D.L b) (Int.toNat (D.I c)) []) 0 default)) (0 : Int) (IntKind.wrap IntKind.i64 (D.I a - (1 : Int)))) (T.leaf (Rd.out Ex.ret [D.b false])) (T.ite (!within (D.I (List.getD (List.getD (D.L b) (Int.toNat (D.I c)) []) (0 + 1) default)) (0 : Int) (65535 : Int)) (T.leaf (Rd.out Ex.ret [D.b false])) (T.ite (decide (D.I (List.getD (List.getD (D.L b) (Int.toNat (D.I c)) []) (0 + 1 + 1) default) < (0 : Int))) (T.leaf (Rd.out Ex.ret [D.b false])) (T.ite (decide (D.I (List.getD (List.getD (D.L b) (Int.toNat (D.I c)) []) (0 + 1 + 1) default) > D.I (List.getD (List.getD (D.L b) (Int.toNat (D.I c)) []) (0 + 1 + 1 + 1) default))) (T.leaf (Rd.out Ex.ret [D.b false])) (T.ite (decide (D.I (List.getD (List.getD (D.L b) (Int.toNat (D.I c)) []) (0 + 1 + 1 + 1) default) > (100000 : Int))) (T.leaf (Rd.out Ex.ret [D.b false])) (T.leaf (Rd.again [D.i (D.I a), D.l (D.L b), D.i (IntKind.wrap IntKind.i64 (D.I c + (1 : Int)))])))))))) (T.leaf (Rd.out (Ex.exit 0) [])) := by kernel_rfl
theorem t29 (a b : D) : fnT C tab29 29 s29 [a, b] =
  T.need (yes (((1 : Int) ≤ D.I a ∧ D.I a ≤ (200 : Int)) ∧ List.length (D.L b) < big ∧ (0 : Int) ≤ (0 : Int) ∧ (0 : Int) ≤ (↑(List.length (D.L b)) : Int))) (T.ite (allFrom (zonL (D.I a) (D.L b)) (Int.toNat (0 : Int)) (List.length (D.L b) - Int.toNat (0 : Int))) (T.leaf [D.b (decide ((↑(List.length (D.L b)) : Int) ≤ (100 : Int)))]) (T.leaf [D.b false])) := by kernel_rfl
theorem t29_2 (a b c : D) : roundT C tab29 29 (loopOf C.P 29 2) l29_2 [a, b, c] =
  T.ite (decide (D.I c < (↑(List.length (D.L b)) : Int))) (T.need (decide ((0 : Int) ≤ D.I c ∧ D.I c < (↑(List.length (D.L b)) : Int))) (T.ite (!within (D.I (List.getD (List.getD (D.L b) (Int.toNat (D.I c)) []) 0 default)) (0 : Int) (IntKind.wrap IntKind.i64 (D.I a - (1 : Int)))) (T.leaf (Rd.out Ex.ret [D.b false])) (T.ite (!within (D.I (List.getD (List.getD (D.L b) (Int.toNat (D.I c)) []) (0 + 1) default)) (0 : Int) (65535 : Int)) (T.leaf (Rd.out Ex.ret [D.b false])) (T.ite (!within (D.I (List.getD (List.getD (D.L b) (Int.toNat (D.I c)) []) (0 + 1 + 1) default)) (0 : Int) (10000 : Int)) (T.leaf (Rd.out Ex.ret [D.b false])) (T.leaf (Rd.again [D.i (D.I a), D.l (D.L b), D.i (IntKind.wrap IntKind.i64 (D.I c + (1 : Int)))])))))) (T.leaf (Rd.out (Ex.exit 0) [D.l (D.L b)])) := by kernel_rfl
theorem t26 (a b c d : D) : fnT C tab26 26 s26 [a, b, c, d] =
  T.ite (decide ((↑(List.length (D.L a)) : Int) ≤ (6 : Int))) (T.ite (decide ((↑(List.length (D.L b)) : Int) ≤ (5 : Int))) (T.ite (decide (D.I c ≤ (40 : Int))) (T.leaf [D.b true]) (T.leaf [D.b (decide (D.I c > (100000 : Int)))])) (T.ite (decide ((↑(List.length (D.L b)) : Int) > (100 : Int))) (T.ite (decide ((↑(List.length (D.L b)) : Int) < (200 : Int))) (T.ite (decide (D.I c ≤ (40 : Int))) (T.leaf [D.b true]) (T.leaf [D.b (decide (D.I c > (100000 : Int)))])) (T.leaf [D.b false])) (T.leaf [D.b false]))) (T.ite (decide ((↑(List.length (D.L a)) : Int) > D.I d)) (T.ite (decide ((↑(List.length (D.L a)) : Int) < (200 : Int))) (T.ite (decide ((↑(List.length (D.L b)) : Int) ≤ (5 : Int))) (T.ite (decide (D.I c ≤ (40 : Int))) (T.leaf [D.b true]) (T.leaf [D.b (decide (D.I c > (100000 : Int)))])) (T.ite (decide ((↑(List.length (D.L b)) : Int) > (100 : Int))) (T.ite (decide ((↑(List.length (D.L b)) : Int) < (200 : Int))) (T.ite (decide (D.I c ≤ (40 : Int))) (T.leaf [D.b true]) (T.leaf [D.b (decide (D.I c > (100000 : Int)))])) (T.leaf [D.b false])) (T.leaf [D.b false]))) (T.leaf [D.b false])) (T.leaf [D.b false])) := by kernel_rfl
end Go.Proofs.Ytgmefblkmidglaa

namespace Go.Proofs.Ytgmefblkmidglaa
open Go.Lite
set_option maxRecDepth 100000
set_option linter.unusedVariables false
theorem vehB_mk (n : Int) (a b c d : D) : vehB n (mk4 a b c d) = decide ((0 ≤ a.I ∧ a.I < n) ∧ (0 ≤ b.I ∧ b.I ≤ 65535) ∧ (0 ≤ c.I ∧ c.I ≤ d.I) ∧ d.I ≤ 100000) := rfl
theorem zonB_mk (n : Int) (a b c : D) : zonB n (mk3 a b c) = decide ((0 ≤ a.I ∧ a.I < n) ∧ (0 ≤ b.I ∧ b.I ≤ 65535) ∧ 0 ≤ c.I ∧ c.I ≤ 10000) := rfl
theorem vehL_mk (n : Int) (l : List (List D)) (j : Nat) : vehB n (mk4 (.i (ix (l.getD j []) 0)) (.i (ix (l.getD j []) 1)) (.i (ix (l.getD j []) 2)) (.i (ix (l.getD j []) 3))) = vehL n l j := rfl
theorem zonL_mk (n : Int) (l : List (List D)) (j : Nat) : zonB n (mk3 (.i (ix (l.getD j []) 0)) (.i (ix (l.getD j []) 1)) (.i (ix (l.getD j []) 2))) = zonL n l j := rfl
theorem ok78 (n : Nat) : FnOK C (n + 2) 78 (mkF s78 G78) := by
  refine fn_ofS hC (sp := sp78) (lp := lp78) (sw := sw78) ⟨ok45 n, trivial⟩ trivial (by kernel_rfl) [] (by kernel_rfl) rfl (fun k hk => by cases hk) fun ds r h => ?_
  unfold G78 at h
  split at h
  · rename_i a
    exact (congrArg T.run (t78 a)).trans h
  · cases h
theorem ok77 (n : Nat) : FnOK C (n + 3) 77 (mkF s77 G77) := by
  refine fn_ofS hC (sp := sp77) (lp := lp77) (sw := sw77) ⟨ok45 (n + 1), ok78 n, trivial⟩ trivial (by kernel_rfl) [] (by kernel_rfl) rfl (fun k hk => by cases hk) fun ds rr h => ?_
  unfold G77 at h
  split at h
  · rename_i a b c d m r
    obtain ⟨hp, h⟩ := need_some h
    rw [yes_iff] at hp
    refine (congrArg T.run (t77 a b c d m r)).trans ?_
    rw [← h, vehB_mk, wrap_id (by omega) (by omega)]
    simp only [within_dec]
    refine go_not (fun c1 => ?_) fun c1 => go_not (fun c2 => ?_) fun c2 => go_not (fun c3 => ?_) fun c3 => ?_
    · have c1 := of_decide_eq_false c1
      rw [decide_eq_false (by omega)]; rfl
    · have c2 := of_decide_eq_false c2
      rw [decide_eq_false (by omega)]; rfl
    · have c3 := of_decide_eq_false c3
      rw [decide_eq_false (by omega)]; rfl
    · have c1 := of_decide_eq_true c1
      have c2 := of_decide_eq_true c2
      have c3 := of_decide_eq_true c3
      by_cases c4 : d.I > 100000
      · rw [decide_eq_true c4, decide_eq_false (by omega)]; rfl
      · rw [decide_eq_false c4, decide_eq_true (by omega)]; rfl
  · cases h
theorem ok80 (n : Nat) : FnOK C (n + 3) 80 (mkF s80 G80) := by
  refine fn_ofS hC (sp := sp80) (lp := lp80) (sw := sw80) ⟨ok45 (n + 1), ok78 n, trivial⟩ trivial (by kernel_rfl) [] (by kernel_rfl) rfl (fun k hk => by cases hk) fun ds rr h => ?_
  unfold G80 at h
  split at h
  · rename_i a b c m r
    obtain ⟨hp, h⟩ := need_some h
    rw [yes_iff] at hp
    refine (congrArg T.run (t80 a b c m r)).trans ?_
    rw [← h, zonB_mk, wrap_id (by omega) (by omega)]
    simp only [within_dec]
    refine go_not (fun c1 => ?_) fun c1 => go_not (fun c2 => ?_) fun c2 => ?_
    · have c1 := of_decide_eq_false c1
      rw [decide_eq_false (by omega)]; rfl
    · have c2 := of_decide_eq_false c2
      rw [decide_eq_false (by omega)]; rfl
    · have c1 := of_decide_eq_true c1
      have c2 := of_decide_eq_true c2
      by_cases c4 : 0 ≤ c.I ∧ c.I ≤ 10000
      · rw [decide_eq_true c4, decide_eq_true (by omega)]
      · rw [decide_eq_false c4, decide_eq_false (by omega)]
  · cases h
theorem first_step' {p : Nat → Bool} {i len : Nat} {ro r : Ex × List D} (h : (T.ite (decide (firstFrom p i (len - i) ≥ 0)) (.leaf (.ret, [.i (firstFrom p i (len - i))])) (.leaf ro)).run = some r) (hlt : i < len) :
    (p i = true → some (Ex.ret, [D.i (i : Int)]) = some r) ∧ (p i = false → (T.ite (decide (firstFrom p (i + 1) (len - (i + 1)) ≥ 0)) (.leaf (.ret, [.i (firstFrom p (i + 1) (len - (i + 1)))])) (.leaf ro)).run = some r) := by
  rw [show len - i = (len - (i + 1)) + 1 by omega] at h
  simp only [firstFrom] at h
  refine ⟨fun hp => ?_, fun hp => ?_⟩
  · simp only [hp, if_true, run_ite, run_leaf] at h
    rw [if_pos (by simp)] at h
    exact h
  · simp only [hp, Bool.false_eq_true, if_false] at h
    exact h
theorem first_end' {p : Nat → Bool} {i len : Nat} {ro r : Ex × List D} (h : (T.ite (decide (firstFrom p i (len - i) ≥ 0)) (.leaf (.ret, [.i (firstFrom p i (len - i))])) (.leaf ro)).run = some r) (hge : ¬ i < len) : some ro = some r := by
  rw [show len - i = 0 by omega] at h
  simp only [firstFrom, run_ite, run_leaf] at h
  rw [if_neg (by simp)] at h
  exact h
theorem ok94_2 (n : Nat) : LoopSim C (n + 3) 94 (loopOf C.P 94 2) (mkL l94_2 G94_2) := by
  refine loop_ofK hC (sp := sp94) (lp := lp94) (sw := sw94) ⟨ok77 n, trivial⟩ trivial 0 [] (by kernel_rfl) rfl (fun k hk => by cases hk) (by kernel_rfl) (fun ds => ((ds.getD 3 default).I - (ds.getD 4 default).I).toNat) fun ds rr h => ?_
  unfold G94_2 at h
  split at h
  · rename_i l m r q i
    obtain ⟨hp, h⟩ := need_some h
    rw [yes_iff] at hp
    obtain ⟨hm, hl, hq, hi0, hi1⟩ := hp
    have hb := big_eq
    refine ⟨by rw [fuelC]; simp; omega, ?_⟩
    rw [show roundTK C (mkTab sp94 lp94 sw94) 94 (loopOf C.P 94 2) 0 l94_2 [l, m, r, q, i] = _ from t94_2 l m r q i]
    obtain ⟨k, hk⟩ : ∃ k : Nat, i.I = k := ⟨i.I.toNat, by omega⟩
    simp only [hk, hq, Int.toNat_natCast, Nat.reduceAdd, ix_def, vehL_mk] at h hi0 hi1 ⊢
    refine rd_if (fun hlt => ?_) fun hge => rd_out (first_end' h (by omega))
    obtain ⟨s1, s2⟩ := first_step' h (by omega : k < l.L.length)
    refine rd_dec (by omega) (rd_yes hm (rd_ite (fun c => rd_out (s1 c)) fun c => ?_))
    rw [wrap_succ (by omega)]
    exact rd_again ((need_yes ⟨hm, hl, rfl, by simp only [I_i]; omega, by simp only [I_i, L_l]; omega⟩).trans (s2 c)) (show ((l.L.length : Int) - ((k + 1 : Nat) : Int)).toNat < (q.I - i.I).toNat by omega)
  · cases h
theorem ok94 (n : Nat) : FnOK C (n + 4) 94 (mkF s94 G94) := by
  refine fn_ofS hC (sp := sp94) (lp := lp94) (sw := sw94) ⟨ok77 n, trivial⟩ trivial (by kernel_rfl) [2] (by kernel_rfl) (by kernel_rfl) (fun k hk L hL => by simp at hk; subst hk; cases hL; exact ok94_2 n) fun ds rr h => ?_
  unfold G94 at h
  split at h
  · rename_i l m r
    obtain ⟨hp, h⟩ := need_some h
    rw [yes_iff] at hp
    refine (congrArg T.run (t94 l m r)).trans ?_
    rw [← h]
    simp only [Int.toNat_zero, Nat.sub_zero]
    refine go_yes ⟨hp.1, hp.2, trivial, by omega, by omega⟩ (go_if (fun c => rfl) fun c => ?_)
    rw [firstFrom_neg (by omega)]
  · cases h
theorem ok95_2 (n : Nat) : LoopSim C (n + 3) 95 (loopOf C.P 95 2) (mkL l95_2 G95_2) := by
  refine loop_ofK hC (sp := sp95) (lp := lp95) (sw := sw95) ⟨ok80 n, trivial⟩ trivial 0 [] (by kernel_rfl) rfl (fun k hk => by cases hk) (by kernel_rfl) (fun ds => ((ds.getD 3 default).I - (ds.getD 4 default).I).toNat) fun ds rr h => ?_
  unfold G95_2 at h
  split at h
  · rename_i l m r q i
    obtain ⟨hp, h⟩ := need_some h
    rw [yes_iff] at hp
    obtain ⟨hm, hl, hq, hi0, hi1⟩ := hp
    have hb := big_eq
    refine ⟨by rw [fuelC]; simp; omega, ?_⟩
    rw [show roundTK C (mkTab sp95 lp95 sw95) 95 (loopOf C.P 95 2) 0 l95_2 [l, m, r, q, i] = _ from t95_2 l m r q i]
    obtain ⟨k, hk⟩ : ∃ k : Nat, i.I = k := ⟨i.I.toNat, by omega⟩
    simp only [hk, hq, Int.toNat_natCast, Nat.reduceAdd, ix_def, zonL_mk] at h hi0 hi1 ⊢
    refine rd_if (fun hlt => ?_) fun hge => rd_out (first_end' h (by omega))
    obtain ⟨s1, s2⟩ := first_step' h (by omega : k < l.L.length)
    refine rd_dec (by omega) (rd_yes hm (rd_ite (fun c => rd_out (s1 c)) fun c => ?_))
    rw [wrap_succ (by omega)]
    exact rd_again ((need_yes ⟨hm, hl, rfl, by simp only [I_i]; omega, by simp only [I_i, L_l]; omega⟩).trans (s2 c)) (show ((l.L.length : Int) - ((k + 1 : Nat) : Int)).toNat < (q.I - i.I).toNat by omega)
  · cases h
theorem ok95 (n : Nat) : FnOK C (n + 4) 95 (mkF s95 G95) := by
  refine fn_ofS hC (sp := sp95) (lp := lp95) (sw := sw95) ⟨ok80 n, trivial⟩ trivial (by kernel_rfl) [2] (by kernel_rfl) (by kernel_rfl) (fun k hk L hL => by simp at hk; subst hk; cases hL; exact ok95_2 n) fun ds rr h => ?_
  unfold G95 at h
  split at h
  · rename_i l m r
    obtain ⟨hp, h⟩ := need_some h
    rw [yes_iff] at hp
    refine (congrArg T.run (t95 l m r)).trans ?_
    rw [← h]
    simp only [Int.toNat_zero, Nat.sub_zero]
    refine go_yes ⟨hp.1, hp.2, trivial, by omega, by omega⟩ (go_if (fun c => rfl) fun c => ?_)
    rw [firstFrom_neg (by omega)]
  · cases h
theorem ok76 (n : Nat) : FnOK C (n + 5) 76 (mkF s76 G76) := by
  refine fn_ofS hC (sp := sp76) (lp := lp76) (sw := sw76) ⟨ok94 n, ok77 (n + 1), trivial⟩ trivial (by kernel_rfl) [] (by kernel_rfl) rfl (fun k hk => by cases hk) fun ds rr h => ?_
  unfold G76 at h
  split at h
  · rename_i l m r
    obtain ⟨hp, h⟩ := need_some h
    rw [yes_iff] at hp
    refine (congrArg T.run (t76 l m r)).trans ?_
    rw [← h]
    refine go_yes hp ?_
    rw [firstFrom_all]
    simp only [Bool.not_not]
    rfl
  · cases h
theorem ok79 (n : Nat) : FnOK C (n + 5) 79 (mkF s79 G79) := by
  refine fn_ofS hC (sp := sp79) (lp := lp79) (sw := sw79) ⟨ok95 n, ok80 (n + 1), trivial⟩ trivial (by kernel_rfl) [] (by kernel_rfl) rfl (fun k hk => by cases hk) fun ds rr h => ?_
  unfold G79 at h
  split at h
  · rename_i l m r
    obtain ⟨hp, h⟩ := need_some h
    rw [yes_iff] at hp
    refine (congrArg T.run (t79 l m r)).trans ?_
    rw [← h]
    refine go_yes hp ?_
    rw [firstFrom_all]
    simp only [Bool.not_not]
    rfl
  · cases h
theorem ok52 (n : Nat) : FnOK C (n + 6) 52 (mkF s52 G52) := by
  refine fn_ofS hC (sp := sp52) (lp := lp52) (sw := sw52) ⟨ok18 (n + 3), ok45 (n + 4), ok76 n, ok79 n, ok77 (n + 2), ok80 (n + 2), trivial⟩ trivial (by kernel_rfl) [] (by kernel_rfl) rfl (fun k hk => by cases hk) fun ds rr h => ?_
  unfold G52 at h
  split at h
  · rename_i m r v q z t
    obtain ⟨hp, h⟩ := need_some h
    rw [yes_iff] at hp
    refine (congrArg T.run (t52 m r v q z t)).trans ?_
    rw [← h]
    unfold coverB
    have hb := big_eq
    cases hN : netB m.I r.L with
    | false => exact go_true rfl rfl
    | true =>
      obtain ⟨p1, p2, p3⟩ := net_parts hN
      rw [Bool.true_and]
      simp only [within_dec]
      refine go_false rfl (go_if (fun c1 => ?_) fun c1 => go_if (fun c2 => ?_) fun c2 => go_not (fun c3 => ?_) fun c3 => ?_)
      · rw [decide_eq_false (by omega)]; rfl
      · rw [decide_eq_false (by omega)]; rfl
      · have c3 := of_decide_eq_false c3
        rw [decide_eq_false (by omega)]; rfl
      · have c3 := of_decide_eq_true c3
        rw [decide_eq_true (by omega), Bool.true_and]
        refine go_yes ⟨p1, by omega⟩ (go_not (fun c4 => by rw [c4]; rfl) fun c4 => go_yes ⟨p1, by omega⟩ ?_)
        rw [c4, Bool.true_and, Bool.not_not]
  · cases h
theorem ok28_2 (n : Nat) : LoopSim C (n + 1) 28 (loopOf C.P 28 2) (mkL l28_2 G28_2) := by
  refine loop_ofK hC (sp := sp28) (lp := lp28) (sw := sw28) ⟨ok47 n, trivial⟩ trivial 0 [] (by kernel_rfl) rfl (fun k hk => by cases hk) (by kernel_rfl) (fun ds => (((ds.getD 1 default).L.length : Int) - (ds.getD 2 default).I).toNat) fun ds rr h => ?_
  unfold G28_2 at h
  split at h
  · rename_i m l i
    obtain ⟨hp, h⟩ := need_some h
    rw [yes_iff] at hp
    obtain ⟨hm, hl, hi0, hi1⟩ := hp
    have hb := big_eq
    refine ⟨by rw [fuelC]; simp; omega, ?_⟩
    rw [show roundTK C (mkTab sp28 lp28 sw28) 28 (loopOf C.P 28 2) 0 l28_2 [m, l, i] = _ from t28_2 m l i]
    obtain ⟨k, hk⟩ : ∃ k : Nat, i.I = k := ⟨i.I.toNat, by omega⟩
    simp only [hk, Int.toNat_natCast, Nat.reduceAdd, ix_def, within_dec] at h hi0 hi1 ⊢
    refine rd_if (fun hlt => ?_) fun hge => rd_out (all_end h (by omega))
    obtain ⟨s1, s2⟩ := all_step h (by omega : k < l.L.length)
    have e0 : vehL m.I l.L k = decide ((0 ≤ ix (l.L.getD k []) 0 ∧ ix (l.L.getD k []) 0 < m.I) ∧ (0 ≤ ix (l.L.getD k []) 1 ∧ ix (l.L.getD k []) 1 ≤ 65535) ∧ (0 ≤ ix (l.L.getD k []) 2 ∧ ix (l.L.getD k []) 2 ≤ ix (l.L.getD k []) 3) ∧ ix (l.L.getD k []) 3 ≤ 100000) := rfl
    rw [e0] at s1 s2
    rw [wrap_succ (by omega), wrap_id (by omega) (by omega)]
    refine rd_dec (by omega) (rd_not (fun c1 => rd_out (s1 ?_)) fun c1 => rd_not (fun c2 => rd_out (s1 ?_)) fun c2 => rd_if (fun c3 => rd_out (s1 (decide_eq_false (by omega)))) fun c3 => rd_if (fun c4 => rd_out (s1 (decide_eq_false (by omega)))) fun c4 => rd_if (fun c5 => rd_out (s1 (decide_eq_false (by omega)))) fun c5 => ?_)
    · have c1 := of_decide_eq_false c1
      exact decide_eq_false (by omega)
    · have c2 := of_decide_eq_false c2
      exact decide_eq_false (by omega)
    · have c1 := of_decide_eq_true c1
      have c2 := of_decide_eq_true c2
      exact rd_again ((need_yes ⟨hm, hl, by simp only [I_i]; omega, by simp only [I_i, L_l]; omega⟩).trans (s2 (decide_eq_true (by omega)))) (show ((l.L.length : Int) - ((k + 1 : Nat) : Int)).toNat < ((l.L.length : Int) - i.I).toNat by omega)
  · cases h
theorem ok28 (n : Nat) : FnOK C (n + 2) 28 (mkF s28 G28) := by
  refine fn_ofS hC (sp := sp28) (lp := lp28) (sw := sw28) ⟨ok47 n, trivial⟩ trivial (by kernel_rfl) [2] (by kernel_rfl) (by kernel_rfl) (fun k hk L hL => by simp at hk; subst hk; cases hL; exact ok28_2 n) fun ds rr h => ?_
  unfold G28 at h
  split at h
  · rename_i m l
    obtain ⟨hp, h⟩ := need_some h
    rw [yes_iff] at hp
    refine (congrArg T.run (t28 m l)).trans ?_
    rw [← h]
    unfold vehs
    simp only [Int.toNat_zero, Nat.sub_zero]
    exact go_yes ⟨hp.1, hp.2, by omega, by omega⟩ (go_ite (fun c => by rw [c]) fun c => by rw [c])
  · cases h
theorem ok29_2 (n : Nat) : LoopSim C (n + 1) 29 (loopOf C.P 29 2) (mkL l29_2 G29_2) := by
  refine loop_ofK hC (sp := sp29) (lp := lp29) (sw := sw29) ⟨ok47 n, trivial⟩ trivial 0 [] (by kernel_rfl) rfl (fun k hk => by cases hk) (by kernel_rfl) (fun ds => (((ds.getD 1 default).L.length : Int) - (ds.getD 2 default).I).toNat) fun ds rr h => ?_
  unfold G29_2 at h
  split at h
  · rename_i m l i
    obtain ⟨hp, h⟩ := need_some h
    rw [yes_iff] at hp
    obtain ⟨hm, hl, hi0, hi1⟩ := hp
    have hb := big_eq
    refine ⟨by rw [fuelC]; simp; omega, ?_⟩
    rw [show roundTK C (mkTab sp29 lp29 sw29) 29 (loopOf C.P 29 2) 0 l29_2 [m, l, i] = _ from t29_2 m l i]
    obtain ⟨k, hk⟩ : ∃ k : Nat, i.I = k := ⟨i.I.toNat, by omega⟩
    simp only [hk, Int.toNat_natCast, Nat.reduceAdd, ix_def, within_dec] at h hi0 hi1 ⊢
    refine rd_if (fun hlt => ?_) fun hge => rd_out (all_end h (by omega))
    obtain ⟨s1, s2⟩ := all_step h (by omega : k < l.L.length)
    have e0 : zonL m.I l.L k = decide ((0 ≤ ix (l.L.getD k []) 0 ∧ ix (l.L.getD k []) 0 < m.I) ∧ (0 ≤ ix (l.L.getD k []) 1 ∧ ix (l.L.getD k []) 1 ≤ 65535) ∧ 0 ≤ ix (l.L.getD k []) 2 ∧ ix (l.L.getD k []) 2 ≤ 10000) := rfl
    rw [e0] at s1 s2
    rw [wrap_succ (by omega), wrap_id (by omega) (by omega)]
    refine rd_dec (by omega) (rd_not (fun c1 => rd_out (s1 ?_)) fun c1 => rd_not (fun c2 => rd_out (s1 ?_)) fun c2 => rd_not (fun c3 => rd_out (s1 ?_)) fun c3 => ?_)
    · have c1 := of_decide_eq_false c1
      exact decide_eq_false (by omega)
    · have c2 := of_decide_eq_false c2
      exact decide_eq_false (by omega)
    · have c3 := of_decide_eq_false c3
      exact decide_eq_false (by omega)
    · have c1 := of_decide_eq_true c1
      have c2 := of_decide_eq_true c2
      have c3 := of_decide_eq_true c3
      exact rd_again ((need_yes ⟨hm, hl, by simp only [I_i]; omega, by simp only [I_i, L_l]; omega⟩).trans (s2 (decide_eq_true (by omega)))) (show ((l.L.length : Int) - ((k + 1 : Nat) : Int)).toNat < ((l.L.length : Int) - i.I).toNat by omega)
  · cases h
theorem ok29 (n : Nat) : FnOK C (n + 2) 29 (mkF s29 G29) := by
  refine fn_ofS hC (sp := sp29) (lp := lp29) (sw := sw29) ⟨ok47 n, trivial⟩ trivial (by kernel_rfl) [2] (by kernel_rfl) (by kernel_rfl) (fun k hk L hL => by simp at hk; subst hk; cases hL; exact ok29_2 n) fun ds rr h => ?_
  unfold G29 at h
  split at h
  · rename_i m l
    obtain ⟨hp, h⟩ := need_some h
    rw [yes_iff] at hp
    refine (congrArg T.run (t29 m l)).trans ?_
    rw [← h]
    unfold zons
    simp only [Int.toNat_zero, Nat.sub_zero]
    refine go_yes ⟨hp.1, hp.2, by omega, by omega⟩ (go_ite (fun c => ?_) fun c => by rw [c]; rfl)
    rw [c, Bool.true_and]
    by_cases c2 : l.L.length ≤ 100
    · rw [decide_eq_true c2, decide_eq_true (by omega)]
    · rw [decide_eq_false c2, decide_eq_false (by omega)]
  · cases h
theorem ok26 (n : Nat) : FnOK C (n + 1) 26 (mkF s26 G26) := by
  refine fn_ofS hC (sp := sp26) (lp := lp26) (sw := sw26) trivial trivial (by kernel_rfl) [] (by kernel_rfl) rfl (fun k hk => by cases hk) fun ds rr h => ?_
  unfold G26 at h
  split at h
  · rename_i v z t q
    refine (congrArg T.run (t26 v z t q)).trans ?_
    rw [← h]
    have f1 : ∀ p : Prop, ((v.L.length : Int) ≤ 6 ∨ q.I < v.L.length ∧ (v.L.length : Int) < 200) ∧ ((z.L.length : Int) ≤ 5 ∨ 100 < (z.L.length : Int) ∧ (z.L.length : Int) < 200) ∧ (t.I ≤ 40 ∨ 100000 < t.I) → fewC v.L.length z.L.length t.I q.I = true := fun _ c => decide_eq_true c
    have f2 : ¬ (((v.L.length : Int) ≤ 6 ∨ q.I < v.L.length ∧ (v.L.length : Int) < 200) ∧ ((z.L.length : Int) ≤ 5 ∨ 100 < (z.L.length : Int) ∧ (z.L.length : Int) < 200) ∧ (t.I ≤ 40 ∨ 100000 < t.I)) → fewC v.L.length z.L.length t.I q.I = false := fun c => decide_eq_false c
    have last : (((v.L.length : Int) ≤ 6 ∨ q.I < v.L.length ∧ (v.L.length : Int) < 200) ∧ ((z.L.length : Int) ≤ 5 ∨ 100 < (z.L.length : Int) ∧ (z.L.length : Int) < 200)) → (T.ite (decide (t.I ≤ 40)) (T.leaf [D.b true]) (T.leaf [D.b (decide (t.I > 100000))])).run = (T.leaf [D.b (fewC v.L.length z.L.length t.I q.I)]).run := fun c => by
      refine go_if (fun c5 => by rw [f1 True (by omega)]) fun c5 => ?_
      by_cases c6 : t.I > 100000
      · rw [f1 True (by omega), decide_eq_true c6]
      · rw [f2 (by omega), decide_eq_false c6]
    exact go_if (fun c1 => go_if (fun c2 => last (by omega)) fun c2 => go_if (fun c3 => go_if (fun c4 => last (by omega)) fun c4 => by rw [f2 (by omega)]) fun c3 => by rw [f2 (by omega)])
      fun c1 => go_if (fun c2 => go_if (fun c3 => go_if (fun c4 => last (by omega)) fun c4 => go_if (fun c5 => go_if (fun c6 => last (by omega)) fun c6 => by rw [f2 (by omega)]) fun c5 => by rw [f2 (by omega)]) fun c3 => by rw [f2 (by omega)]) fun c2 => by rw [f2 (by omega)]
  · cases h
end Go.Proofs.Ytgmefblkmidglaa

namespace Go.Proofs.Ytgmefblkmidglaa
open Go.Lite
def s106 : SigI := ⟨[.yl, .ptr 0 1 0 0], [.box [.k (.ro [.int .i64, .int .i64])]]⟩
def y106 : YS := mkY [.k (.int .i64), .agg [.k (.int .i64), .k (.int .i64)]] [] false
def l106_1 : LSig := mkLS [0, 1, 3] [(19, [(0, .yl), (1, .ptr 0 1 0 0), (3, .k (.int .i64))], [.box [.k (.ro [.int .i64, .int .i64])]])] [(.ret, [], [(19, [], [.box [.k (.ro [.int .i64, .int .i64])]])]), (.exit 0, [], [(19, [], [.box [.k (.ro [.int .i64, .int .i64])]])])]
def s105 : SigW := ⟨[.k (.ro [.int .i64, .int .i64])], [], [(.fn 106 [] [.ptr 0 1 0 0], [.box [.k (.ro [.int .i64, .int .i64])]])]⟩
def s104 : Sig := ⟨[.agg [.k (.int .i64), .k (.int .i64), .k (.int .i64), .k (.ro [.int .i64, .int .i64])], .k (.int .i64)], [(.k (.int .i64), [])]⟩
def h104_3 : List Shp := [mkShp (31, [(2, .ptr 0 4 0 0), (3, .ptr 1 1 0 0), (4, .k (.int .i64)), (9, .fn 106 [] [.any])], [.box [.k (.int .i64), .k (.int .i64), .k (.int .i64), .k (.ro [.int .i64, .int .i64])], .box [.k (.int .i64)]])]
def s103 : SigI := ⟨[.yl, .eptr [.k (.int .i64), .k (.ro [.int .i64, .int .i64, .int .i64, .ro [.int .i64, .int .i64]])], .ptr 0 1 0 0, .ptr 1 1 0 0], [.box [.k (.int .i64)], .box [.k (.int .i64)]]⟩
def y103 : YS := mkY [.agg [.k (.int .i64), .k (.int .i64)]] [] false
def l103_1 : LSig := mkLS [0, 2, 3, 8, 9, 10] [(35, [(0, .yl), (2, .ptr 0 1 0 0), (3, .ptr 1 1 0 0), (8, .k (.ro [.int .i64, .int .i64, .int .i64, .ro [.int .i64, .int .i64]])), (9, .k (.int .i64)), (10, .k (.int .i64))], [.box [.k (.int .i64)], .box [.k (.int .i64)]])] [(.ret, [], [(35, [], [.box [.k (.int .i64)], .box [.k (.int .i64)]])]), (.exit 0, [], [(35, [], [.box [.k (.int .i64)], .box [.k (.int .i64)]])])]
def s102 : SigW := ⟨[.k (.int .i64), .k (.int .i64), .eptr [.k (.int .i64), .k (.ro [.int .i64, .int .i64, .int .i64, .ro [.int .i64, .int .i64]])]], [], [(.fn 103 [] [.eptr [.k (.int .i64), .k (.ro [.int .i64, .int .i64, .int .i64, .ro [.int .i64, .int .i64]])], .ptr 0 1 0 0, .ptr 1 1 0 0], [.box [.k (.int .i64)], .box [.k (.int .i64)]])]⟩
def s1073 : Sig := ⟨[.k (.int .i64), .agg [.k (.int .i64), .k (.int .i64)], .fn 102 [] [.eptr [.k (.int .i64), .k (.ro [.int .i64, .int .i64, .int .i64, .ro [.int .i64, .int .i64]])]]], [(.sl 0 1, [.row [.int .i64]])]⟩
def h1073_14 : List Shp := [mkShp (72, [(2, .fn 102 [] [.eptr [.k (.int .i64), .k (.ro [.int .i64, .int .i64, .int .i64, .ro [.int .i64, .int .i64]])]]), (6, .nils), (7, .ptr 0 1 0 0), (9, .ptr 1 1 0 0), (51, .fn 103 [] [.eptr [.k (.int .i64), .k (.ro [.int .i64, .int .i64, .int .i64, .ro [.int .i64, .int .i64]])], .any, .any])], [.box [.sl 2 1], .box [.ifc 159 (.ptr 3 1 0 0)], .row [.int .i64], .box [.sl 4 2], .row [.int .i64, .int .i64]])]
def l1073_3 : LSig := mkLS [2, 4, 6, 7, 15, 16] [(72, [(2, .fn 102 [] [.eptr [.k (.int .i64), .k (.ro [.int .i64, .int .i64, .int .i64, .ro [.int .i64, .int .i64]])]]), (4, .ptr 0 2 0 0), (6, .nils), (7, .ptr 1 1 0 0), (15, .k (.int .i64)), (16, .k (.int .i64))], [.box [.k (.int .i64), .k (.int .i64)], .box [.sl 2 1], .row [.int .i64]])] [(.exit 0, [2, 4, 6, 7], [(72, [(2, .fn 102 [] [.eptr [.k (.int .i64), .k (.ro [.int .i64, .int .i64, .int .i64, .ro [.int .i64, .int .i64]])]]), (4, .ptr 0 2 0 0), (6, .nils), (7, .ptr 1 1 0 0)], [.box [.k (.int .i64), .k (.int .i64)], .box [.sl 2 1], .row [.int .i64]])])]
def l1073_9 : LSig := mkLS [2, 6, 7, 9] [(72, [(2, .fn 102 [] [.eptr [.k (.int .i64), .k (.ro [.int .i64, .int .i64, .int .i64, .ro [.int .i64, .int .i64]])]]), (6, .nils), (7, .ptr 0 1 0 0), (9, .ptr 1 1 0 0)], [.box [.sl 2 1], .box [.ifc 159 (.ptr 3 1 0 0)], .row [.int .i64], .box [.sl 4 2], .row [.int .i64, .int .i64]])] [(.exit 2, [7], [(72, [(7, .ptr 0 1 0 0)], [.box [.sl 1 1], .row [.int .i64]])])]
def s97 : Sig := ⟨[.agg [.k (.int .i64), .k (.ro [.int .i64, .int .i64, .int .i64, .ro [.int .i64, .int .i64]])], .k (.int .i64), .k (.int .i64)], [(.sl 0 1, [.row [.int .i64]])]⟩
def l97_3 : LSig := mkLS [7, 18, 19] [(32, [(7, .sl 0 1), (18, .k (.int .i64)), (19, .k (.int .i64))], [.row [.int .i64]])] [(.exit 0, [7], [(32, [(7, .sl 0 1)], [.row [.int .i64]])])]
end Go.Proofs.Ytgmefblkmidglaa

namespace Go.Proofs.Ytgmefblkmidglaa
open Go.Lite
noncomputable section
/-- What is yielded of closings, from the last one of k on. -/
def backY (l : List (List D)) : Nat → List (List D)
  | 0 => []
  | k + 1 => [.i k, .i (ix (l.getD k []) 0), .i (ix (l.getD k []) 1)] :: backY l k
def leavG (c : Int) : List (List D) → Int → Int
  | [], s => s
  | e :: es, s => leavG c es (if s + c > ix e 1 ∧ s < ix e 2 then ix e 1 - c else s)
def okY (L : List (List D)) : Prop := ∀ e ∈ L, (-1099511627776 ≤ ix e 1 ∧ ix e 1 ≤ 1099511627776) ∧ -1099511627776 ≤ ix e 2 ∧ ix e 2 ≤ 1099511627776
def okU (s : Int) : Prop := -576460752303423488 ≤ s ∧ s ≤ 576460752303423488
def needB (n : Nat) (r : List (List D)) (s : Sr) : Prop := s.k ≤ s.q.length ∧ s.k < 274877906944 ∧ n ≤ s.o.length ∧ (0 ≤ takeV s ∧ takeV s < n) ∧ okU (takeT s) ∧ okR r ∧ r.length < 274877906944 ∧ ∀ i, i < r.length → 0 ≤ ix (r.getD i []) 0 ∧ ix (r.getD i []) 0 < n
def endsB (n : Nat) (r : List (List D)) (f : Nat) (s : Sr) : Prop := endsG (needB n r) (stepG (nxB r)) f s
def lenB (n : Nat) (r : List (List D)) (s : Sr) : Nat := Classical.epsilon fun f => endsB n r f s
def resB (n : Nat) (r : List (List D)) (s : Sr) : List (List D) := runG (stepG (nxB r)) (lenB n r s) s
def haltB (n : Nat) (r : List (List D)) (s : Sr) : Prop := ∃ f, f < 9223372036854775808 ∧ endsB n r f s
def negF : Nat → Nat → List (List D) → List (List D)
  | _, 0, l => l
  | i, k + 1, l => negF (i + 1) k (rs l i (-(rg l i)))
def okN (l : List (List D)) : Prop := ∀ u, -9223372036854775807 ≤ rg l u ∧ rg l u ≤ 9223372036854775807
def G106 (ds : List D) : T (List (List D)) := match ds with
  | [l] => .need (yes (l.L.length < big)) (.leaf (backY l.L l.L.length))
  | _ => .fail
def G106_1 (q : Nat) (ds : List D) : T (Ex × List D) := match ds with
  | [g, i, l] => .need (yes (l.L.length < big ∧ -1 ≤ i.I ∧ i.I < l.L.length ∧ g.L.length ≤ q))
      (.ite (decide (q < g.L.length + (i.I + 1).toNat)) (.leaf (.ret, [.l (g.L ++ (backY l.L (i.I + 1).toNat).take (q + 1 - g.L.length)), .l l.L])) (.leaf (.exit 0, [.l (g.L ++ backY l.L (i.I + 1).toNat), .l l.L])))
  | _ => .fail
def G105 (ds : List D) : T (List D) := match ds with
  | [l] => .leaf [.l l.L]
  | _ => .fail
def G104 (ds : List D) : T (List D) := match ds with
  | [_, _, c, l, s] => .need (yes (okT c.I ∧ okS s.I ∧ okC l.L)) (.leaf [.i (leavF l.L c.I l.L.length s.I)])
  | _ => .fail
def G104_3 (L : List (List D)) (ds : List D) : T (Ex × List D) := match ds with
  | [z, a, b, c, l, s] => .need (yes (okT c.I ∧ okS s.I ∧ okY L)) (.leaf (.normal, [.i z.I, .i a.I, .i b.I, .i c.I, .l l.L, .i (leavG c.I L s.I)]))
  | _ => .fail
def G103 (ds : List D) : T (List (List D)) := match ds with
  | [_, r, v, t] => .need (yes (okR r.L ∧ okU t.I)) (.leaf (backF r.L v.I t.I 0 r.L.length))
  | _ => .fail
def G103_1 (q : Nat) (ds : List D) : T (Ex × List D) := match ds with
  | [g, r, m, i, v, t] => .need (yes (okR r.L ∧ okU t.I ∧ m.I = r.L.length ∧ 0 ≤ i.I ∧ i.I ≤ r.L.length ∧ g.L.length ≤ q))
      (.ite (decide (q < g.L.length + (backF r.L v.I t.I i.I.toNat (r.L.length - i.I.toNat)).length))
        (.leaf (.ret, [.l (g.L ++ (backF r.L v.I t.I i.I.toNat (r.L.length - i.I.toNat)).take (q + 1 - g.L.length)), .i v.I, .i t.I]))
        (.leaf (.exit 0, [.l (g.L ++ backF r.L v.I t.I i.I.toNat (r.L.length - i.I.toNat)), .i v.I, .i t.I])))
  | _ => .fail
def G102 (ds : List D) : T (List D) := match ds with
  | [v, t, n, r] => .leaf [.i n.I, .l r.L, .i v.I, .i t.I]
  | _ => .fail
def G1073_3 : List D → T (Ex × List D) := G73_3
def G1073_9 (ds : List D) : T (Ex × List D) := match ds with
  | [_, r, n, o, k, q] => .need (yes (haltB n.I.toNat r.L (mkSr o k q))) (.leaf (.exit 2, [.i (n.I.toNat : Int), .l (resB n.I.toNat r.L (mkSr o k q))]))
  | _ => .fail
def G1073_14 : List (List D) → List D → T (Ex × List D) := G73_14
def G1073 (ds : List D) : T (List D) := match ds with
  | [n, v, t, _, r] => .need (yes (0 ≤ n.I ∧ n.I < 1099511627776 ∧ 0 ≤ v.I ∧ v.I < n.I ∧ haltB n.I.toNat r.L (startS n.I v.I t.I))) (.leaf [.i n.I, .l (resB n.I.toNat r.L (startS n.I v.I t.I))])
  | _ => .fail
def latF (n : Int) (r : List (List D)) (v t : Int) : List (List D) := negF 0 n.toNat (resB n.toNat r (startS n v (-t)))
def G97_3 (ds : List D) : T (Ex × List D) := match ds with
  | [n, m, i, l] => .need (yes (m.I = (n.I.toNat : Int) ∧ n.I.toNat ≤ l.L.length ∧ 0 ≤ i.I ∧ i.I ≤ m.I ∧ m.I < 1099511627776 ∧ okN l.L)) (.leaf (.exit 0, [.i (n.I.toNat : Int), .l (negF i.I.toNat (n.I.toNat - i.I.toNat) l.L)]))
  | _ => .fail
def G97 (ds : List D) : T (List D) := match ds with
  | [n, r, v, t] => .need (yes (netB n.I r.L = true ∧ (0 ≤ v.I ∧ v.I < n.I) ∧ 0 ≤ t.I ∧ t.I ≤ 1000000)) (.leaf [.i n.I, .l (latF n.I r.L v.I t.I)])
  | _ => .fail
end
end Go.Proofs.Ytgmefblkmidglaa

namespace Go.Proofs.Ytgmefblkmidglaa
open Go.Lite
noncomputable def sp106 : SpL := []
noncomputable def lp106 (q : Nat) : LpL := [(1, mkLY 1 l106_1 (G106_1 q))]
noncomputable def sw106 : SwL := []
noncomputable def tab106 (q : Nat) : Tab := mkTabY sp106 (lp106 q) sw106 y106 q
noncomputable def sp105 : SpL := []
noncomputable def lp105 : LpL := []
noncomputable def sw105 : SwL := []
noncomputable def tab105 : Tab := mkTab sp105 lp105 sw105
noncomputable def it104_3 : ItL := [(106, mkFY s106 G106)]
noncomputable def sp104 : SpL := []
noncomputable def lp104 : LpL := []
noncomputable def sw104 : SwL := [(105, mkFW s105 G105)]
noncomputable def rg104 : LpL := [(3, rangeS 0 [2, 3, 4, 9] (rangeOf C.P 104 3).1 it104_3 h104_3 G104_3)]
noncomputable def tab104 : Tab := mkTabR sp104 lp104 sw104 rg104
noncomputable def sp103 : SpL := [(104, mkF s104 G104)]
noncomputable def lp103 (q : Nat) : LpL := [(1, mkLY 2 l103_1 (G103_1 q))]
noncomputable def sw103 : SwL := []
noncomputable def tab103 (q : Nat) : Tab := mkTabY sp103 (lp103 q) sw103 y103 q
noncomputable def sp102 : SpL := []
noncomputable def lp102 : LpL := []
noncomputable def sw102 : SwL := []
noncomputable def tab102 : Tab := mkTab sp102 lp102 sw102
noncomputable def it1073_14 : ItL := [(103, mkFY s103 G103)]
noncomputable def sp1073 : SpL := [(123, mkF s123 G123)]
noncomputable def lp1073 : LpL := [(3, mkL l1073_3 G1073_3), (9, mkL l1073_9 G1073_9)]
noncomputable def sw1073 : SwL := [(93, mkFW s93 G93), (102, mkFW s102 G102), (127, mkFW s127 G127)]
noncomputable def rg1073 : LpL := [(14, rangeS 0 [2, 6, 7, 9, 51] (rangeOf C.P 73 14).1 it1073_14 h1073_14 G1073_14)]
noncomputable def tab1073 : Tab := mkTabR sp1073 lp1073 sw1073 rg1073
noncomputable def sp97 : SpL := [(73, mkF s1073 G1073)]
noncomputable def lp97 : LpL := [(3, mkL l97_3 G97_3)]
noncomputable def sw97 : SwL := [(102, mkFW s102 G102)]
noncomputable def tab97 : Tab := mkTab sp97 lp97 sw97
end Go.Proofs.Ytgmefblkmidglaa

namespace Go.Proofs.Ytgmefblkmidglaa
open Go.Lite
set_option linter.unusedVariables false
set_option maxRecDepth 100000
theorem t106 (q : Nat) (a : D) : fnTY C (tab106 q) 106 s106 [a] =
  T.need (yes (List.length (D.L a) < big ∧ (-1 : Int) ≤ IntKind.wrap IntKind.i64 ((↑(List.length (D.L a)) : Int) - (1 : Int)) ∧ IntKind.wrap IntKind.i64 ((↑(List.length (D.L a)) : Int) - (1 : Int)) < (↑(List.length (D.L a)) : Int) ∧ List.length ([] : List (List D)) ≤ q)) (T.ite (decide (q < List.length ([] : List (List D)) + Int.toNat (IntKind.wrap IntKind.i64 ((↑(List.length (D.L a)) : Int) - (1 : Int)) + (1 : Int)))) (T.leaf ([] ++ List.take (q + 1 - List.length ([] : List (List D))) (backY (D.L a) (Int.toNat (IntKind.wrap IntKind.i64 ((↑(List.length (D.L a)) : Int) - (1 : Int)) + (1 : Int)))))) (T.leaf ([] ++ backY (D.L a) (Int.toNat (IntKind.wrap IntKind.i64 ((↑(List.length (D.L a)) : Int) - (1 : Int)) + (1 : Int)))))) := by kernel_rfl
theorem t106_1 (q : Nat) (a b c : D) : roundTY C (tab106 q) 106 (loopOf C.P 106 1) 1 l106_1 [a, b, c] =
  T.ite (decide (D.I b ≥ (0 : Int))) (T.need (decide ((0 : Int) ≤ D.I b ∧ D.I b < (↑(List.length (D.L c)) : Int))) (T.ite (!!List.length (D.L a) == (tab106 q).q) (T.leaf (Rd.out Ex.ret [D.l (D.L a ++ [[D.i (D.I b)] ++ ([D.i (D.I (List.getD (List.getD (D.L c) (Int.toNat (D.I b)) []) 0 default))] ++ ([D.i (D.I (List.getD (List.getD (D.L c) (Int.toNat (D.I b)) []) (0 + 1) default))] ++ []) ++ []) ++ []]), D.l (D.L c)])) (T.leaf (Rd.again [D.l (D.L a ++ [[D.i (D.I b)] ++ ([D.i (D.I (List.getD (List.getD (D.L c) (Int.toNat (D.I b)) []) 0 default))] ++ ([D.i (D.I (List.getD (List.getD (D.L c) (Int.toNat (D.I b)) []) (0 + 1) default))] ++ []) ++ []) ++ []]), D.i (IntKind.wrap IntKind.i64 (D.I b - (1 : Int))), D.l (D.L c)])))) (T.leaf (Rd.out (Ex.exit 0) [D.l (D.L a), D.l (D.L c)])) := by kernel_rfl
theorem t105 (a : D) : fnTW C tab105 105 s105 [a] =
  T.leaf [D.l (D.L a)] := by kernel_rfl
theorem t104 (a b c d e : D) : fnT C tab104 104 s104 [a, b, c, d, e] =
  T.need (yes (List.length (D.L d) < big)) (T.need (yes (okT (D.I c) ∧ okS (D.I e) ∧ okY (backY (D.L d) (List.length (D.L d))))) (T.leaf [D.i (leavG (D.I c) (backY (D.L d) (List.length (D.L d))) (D.I e))])) := by kernel_rfl
theorem t104_r3 (a b c d e f g h i : D) : roundRT C tab104 104 (rangeOf C.P 104 3) 0 2 [2, 3, 4, 9] h104_3 y106 [a, b, c, d, e, f] [g, h, i] =
  T.ite (decide (IntKind.wrap IntKind.i64 (D.I f + D.I d) > D.I h)) (T.ite (decide (D.I f < D.I i)) (T.leaf (Rd.again [D.i (D.I a), D.i (D.I b), D.i (D.I c), D.i (D.I d), D.l (D.L e), D.i (IntKind.wrap IntKind.i64 (D.I h - D.I d))], [])) (T.leaf (Rd.again [D.i (D.I a), D.i (D.I b), D.i (D.I c), D.i (D.I d), D.l (D.L e), D.i (D.I f)], []))) (T.leaf (Rd.again [D.i (D.I a), D.i (D.I b), D.i (D.I c), D.i (D.I d), D.l (D.L e), D.i (D.I f)], [])) := by kernel_rfl
theorem t103 (q : Nat) (a b c d : D) : fnTY C (tab103 q) 103 s103 [a, b, c, d] =
  T.need (yes (okR (D.L b) ∧ okU (D.I d) ∧ (↑(List.length (D.L b)) : Int) = (↑(List.length (D.L b)) : Int) ∧ (0 : Int) ≤ (0 : Int) ∧ (0 : Int) ≤ (↑(List.length (D.L b)) : Int) ∧ List.length ([] : List (List D)) ≤ q)) (T.ite (decide (q < List.length ([] : List (List D)) + List.length (backF (D.L b) (D.I c) (D.I d) (Int.toNat (0 : Int)) (List.length (D.L b) - Int.toNat (0 : Int))))) (T.leaf ([] ++ List.take (q + 1 - List.length ([] : List (List D))) (backF (D.L b) (D.I c) (D.I d) (Int.toNat (0 : Int)) (List.length (D.L b) - Int.toNat (0 : Int))))) (T.leaf ([] ++ backF (D.L b) (D.I c) (D.I d) (Int.toNat (0 : Int)) (List.length (D.L b) - Int.toNat (0 : Int))))) := by kernel_rfl
theorem t103_1 (q : Nat) (a b c d e f : D) : roundTY C (tab103 q) 103 (loopOf C.P 103 1) 2 l103_1 [a, b, c, d, e, f] =
  T.ite (decide (D.I d < D.I c)) (T.need (decide ((0 : Int) ≤ D.I d ∧ D.I d < (↑(List.length (D.L b)) : Int))) (T.ite (D.I (List.getD (List.getD (D.L b) (Int.toNat (D.I d)) []) (0 + 1) default) == D.I e) (T.need (yes (okT (D.I (List.getD (List.getD (D.L b) (Int.toNat (D.I d)) []) (0 + 1 + 1) default)) ∧ okS (IntKind.wrap IntKind.i64 (IntKind.wrap IntKind.i64 ((0 : Int) - D.I f) - D.I (List.getD (List.getD (D.L b) (Int.toNat (D.I d)) []) (0 + 1 + 1) default))) ∧ okC (D.L (List.getD (List.getD (D.L b) (Int.toNat (D.I d)) []) (0 + 1 + 1 + 1) default)))) (T.ite (!!List.length (D.L a) == (tab103 q).q) (T.leaf (Rd.out Ex.ret [D.l (D.L a ++ [[D.i (D.I (List.getD (List.getD (D.L b) (Int.toNat (D.I d)) []) 0 default))] ++ ([D.i (IntKind.wrap IntKind.i64 ((0 : Int) - leavF (D.L (List.getD (List.getD (D.L b) (Int.toNat (D.I d)) []) (0 + 1 + 1 + 1) default)) (D.I (List.getD (List.getD (D.L b) (Int.toNat (D.I d)) []) (0 + 1 + 1) default)) (List.length (D.L (List.getD (List.getD (D.L b) (Int.toNat (D.I d)) []) (0 + 1 + 1 + 1) default))) (IntKind.wrap IntKind.i64 (IntKind.wrap IntKind.i64 ((0 : Int) - D.I f) - D.I (List.getD (List.getD (D.L b) (Int.toNat (D.I d)) []) (0 + 1 + 1) default)))))] ++ []) ++ [] ++ []]), D.i (D.I e), D.i (D.I f)])) (T.leaf (Rd.again [D.l (D.L a ++ [[D.i (D.I (List.getD (List.getD (D.L b) (Int.toNat (D.I d)) []) 0 default))] ++ ([D.i (IntKind.wrap IntKind.i64 ((0 : Int) - leavF (D.L (List.getD (List.getD (D.L b) (Int.toNat (D.I d)) []) (0 + 1 + 1 + 1) default)) (D.I (List.getD (List.getD (D.L b) (Int.toNat (D.I d)) []) (0 + 1 + 1) default)) (List.length (D.L (List.getD (List.getD (D.L b) (Int.toNat (D.I d)) []) (0 + 1 + 1 + 1) default))) (IntKind.wrap IntKind.i64 (IntKind.wrap IntKind.i64 ((0 : Int) - D.I f) - D.I (List.getD (List.getD (D.L b) (Int.toNat (D.I d)) []) (0 + 1 + 1) default)))))] ++ []) ++ [] ++ []]), D.l (D.L b), D.i (D.I c), D.i (IntKind.wrap IntKind.i64 (D.I d + (1 : Int))), D.i (D.I e), D.i (D.I f)])))) (T.leaf (Rd.again [D.l (D.L a), D.l (D.L b), D.i (D.I c), D.i (IntKind.wrap IntKind.i64 (D.I d + (1 : Int))), D.i (D.I e), D.i (D.I f)])))) (T.leaf (Rd.out (Ex.exit 0) [D.l (D.L a), D.i (D.I e), D.i (D.I f)])) := by kernel_rfl
theorem t102 (a b c d : D) : fnTW C tab102 102 s102 [a, b, c, d] =
  T.leaf [D.i (D.I c), D.l (D.L d), D.i (D.I a), D.i (D.I b)] := by kernel_rfl
theorem t1073 (a b c d e : D) : fnT C tab1073 73 s1073 [a, b, c, d, e] =
  T.need (decide ((0 : Int) ≤ D.I a ∧ D.I a = D.I a ∧ D.I a ≤ (2 : Int) ^ 40 ∧ (↑Try.prog.types[3].bytes : Int) * D.I a ≤ (2 : Int) ^ 46)) (T.need (yes ((↑(List.length (List.replicate (Int.toNat (D.I a)) [D.i (0 : Int)])) : Int) = (↑(Int.toNat (↑(List.length (List.replicate (Int.toNat (D.I a)) [D.i (0 : Int)])) : Int)) : Int) ∧ Int.toNat (↑(List.length (List.replicate (Int.toNat (D.I a)) [D.i (0 : Int)])) : Int) ≤ List.length (List.replicate (Int.toNat (D.I a)) [D.i (0 : Int)]) ∧ (0 : Int) ≤ (0 : Int) ∧ (0 : Int) ≤ (↑(List.length (List.replicate (Int.toNat (D.I a)) [D.i (0 : Int)])) : Int) ∧ (↑(List.length (List.replicate (Int.toNat (D.I a)) [D.i (0 : Int)])) : Int) < (1099511627776 : Int))) (T.need (decide ((0 : Int) ≤ D.I b ∧ D.I b < (↑(Int.toNat (↑(Int.toNat (↑(List.length (List.replicate (Int.toNat (D.I a)) [D.i (0 : Int)])) : Int)) : Int)) : Int))) (T.need (decide (Int.toNat (D.I b) < List.length (fillF (9223372036854775807 : Int) (Int.toNat (0 : Int)) (Int.toNat (↑(List.length (List.replicate (Int.toNat (D.I a)) [D.i (0 : Int)])) : Int) - Int.toNat (0 : Int)) (List.replicate (Int.toNat (D.I a)) [D.i (0 : Int)])))) (T.need (yes (haltB (Int.toNat (↑(Int.toNat (↑(Int.toNat (↑(List.length (List.replicate (Int.toNat (D.I a)) [D.i (0 : Int)])) : Int)) : Int)) : Int)) (D.L e) (mkSr (D.l (List.set (fillF (9223372036854775807 : Int) (Int.toNat (0 : Int)) (Int.toNat (↑(List.length (List.replicate (Int.toNat (D.I a)) [D.i (0 : Int)])) : Int) - Int.toNat (0 : Int)) (List.replicate (Int.toNat (D.I a)) [D.i (0 : Int)])) (Int.toNat (D.I b)) (updC (List.getD (fillF (9223372036854775807 : Int) (Int.toNat (0 : Int)) (Int.toNat (↑(List.length (List.replicate (Int.toNat (D.I a)) [D.i (0 : Int)])) : Int) - Int.toNat (0 : Int)) (List.replicate (Int.toNat (D.I a)) [D.i (0 : Int)])) (Int.toNat (D.I b)) []) [D.i (D.I c)] 0 0 (List.length [K.int IntKind.i64])))) (D.i (↑(List.length [[D.i (D.I b), D.i (D.I c)]]) : Int)) (D.l [[D.i (D.I b), D.i (D.I c)]])))) (T.leaf [D.i (↑(Int.toNat (↑(Int.toNat (↑(Int.toNat (↑(Int.toNat (↑(List.length (List.replicate (Int.toNat (D.I a)) [D.i (0 : Int)])) : Int)) : Int)) : Int)) : Int)) : Int), D.l (resB (Int.toNat (↑(Int.toNat (↑(Int.toNat (↑(List.length (List.replicate (Int.toNat (D.I a)) [D.i (0 : Int)])) : Int)) : Int)) : Int)) (D.L e) (mkSr (D.l (List.set (fillF (9223372036854775807 : Int) (Int.toNat (0 : Int)) (Int.toNat (↑(List.length (List.replicate (Int.toNat (D.I a)) [D.i (0 : Int)])) : Int) - Int.toNat (0 : Int)) (List.replicate (Int.toNat (D.I a)) [D.i (0 : Int)])) (Int.toNat (D.I b)) (updC (List.getD (fillF (9223372036854775807 : Int) (Int.toNat (0 : Int)) (Int.toNat (↑(List.length (List.replicate (Int.toNat (D.I a)) [D.i (0 : Int)])) : Int) - Int.toNat (0 : Int)) (List.replicate (Int.toNat (D.I a)) [D.i (0 : Int)])) (Int.toNat (D.I b)) []) [D.i (D.I c)] 0 0 (List.length [K.int IntKind.i64])))) (D.i (↑(List.length [[D.i (D.I b), D.i (D.I c)]]) : Int)) (D.l [[D.i (D.I b), D.i (D.I c)]])))]))))) := by kernel_rfl
theorem t1073_3 (a b c d e f g h : D) : roundT C tab1073 73 (loopOf C.P 73 3) l1073_3 [a, b, c, d, e, f, g, h] =
  T.ite (decide (D.I d < D.I c)) (T.need (decide ((0 : Int) ≤ D.I d ∧ D.I d < (↑(Int.toNat (D.I g)) : Int))) (T.need (decide (Int.toNat (D.I d) < List.length (D.L h))) (T.leaf (Rd.again [D.i (D.I a), D.l (D.L b), D.i (D.I c), D.i (IntKind.wrap IntKind.i64 (D.I d + (1 : Int))), D.i (D.I e), D.i (D.I f), D.i (↑(Int.toNat (D.I g)) : Int), D.l (List.set (D.L h) (Int.toNat (D.I d)) (updC (List.getD (D.L h) (Int.toNat (D.I d)) []) [D.i (9223372036854775807 : Int)] 0 0 (List.length [K.int IntKind.i64])))])))) (T.leaf (Rd.out (Ex.exit 0) [D.i (D.I a), D.l (D.L b), D.i (D.I e), D.i (D.I f), D.i (↑(Int.toNat (D.I g)) : Int), D.l (D.L h)])) := by kernel_rfl
theorem t1073_9 (a b c d e f : D) : roundT C tab1073 73 (loopOf C.P 73 9) l1073_9 [a, b, c, d, e, f] =
  T.need (decide (Int.toNat (D.I e) ≤ List.length (D.L f))) (T.ite (decide ((↑(List.length (List.take (Int.toNat (D.I e)) (D.L f))) : Int) > (0 : Int))) (T.need (yes (1 ≤ Int.toNat (↑(Int.toNat (D.I e)) : Int) ∧ Int.toNat (↑(Int.toNat (D.I e)) : Int) ≤ List.length (D.L f) ∧ Int.toNat (↑(Int.toNat (D.I e)) : Int) < 1099511627776)) (T.need (decide ((0 : Int) ≤ ix (List.getD (popR (D.L f) (Int.toNat (↑(Int.toNat (D.I e)) : Int))) (Int.toNat (↑(Int.toNat (D.I e)) : Int) - 1) []) 0 ∧ ix (List.getD (popR (D.L f) (Int.toNat (↑(Int.toNat (D.I e)) : Int))) (Int.toNat (↑(Int.toNat (D.I e)) : Int) - 1) []) 0 < (↑(Int.toNat (D.I c)) : Int))) (T.need (decide (Int.toNat (ix (List.getD (popR (D.L f) (Int.toNat (↑(Int.toNat (D.I e)) : Int))) (Int.toNat (↑(Int.toNat (D.I e)) : Int) - 1) []) 0) < List.length (D.L d))) (T.ite (decide (ix (List.getD (popR (D.L f) (Int.toNat (↑(Int.toNat (D.I e)) : Int))) (Int.toNat (↑(Int.toNat (D.I e)) : Int) - 1) []) 1 > D.I (List.getD (List.getD (D.L d) (Int.toNat (ix (List.getD (popR (D.L f) (Int.toNat (↑(Int.toNat (D.I e)) : Int))) (Int.toNat (↑(Int.toNat (D.I e)) : Int) - 1) []) 0)) []) 0 default))) (T.leaf (Rd.again [D.i (D.I a), D.l (D.L b), D.i (↑(Int.toNat (D.I c)) : Int), D.l (D.L d), D.i (↑(Int.toNat (↑(Int.toNat (↑(Int.toNat (D.I e)) : Int) - 1) : Int)) : Int), D.l (popR (D.L f) (Int.toNat (↑(Int.toNat (D.I e)) : Int)))])) (T.need (yes (okR (D.L b) ∧ okU (ix (List.getD (popR (D.L f) (Int.toNat (↑(Int.toNat (D.I e)) : Int))) (Int.toNat (↑(Int.toNat (D.I e)) : Int) - 1) []) 1))) (T.need (yes (Int.toNat (↑(Int.toNat (D.I c)) : Int) ≤ List.length (D.L d) ∧ Int.toNat (↑(Int.toNat (↑(Int.toNat (↑(Int.toNat (D.I e)) : Int) - 1) : Int)) : Int) ≤ List.length (popR (D.L f) (Int.toNat (↑(Int.toNat (D.I e)) : Int))) ∧ Int.toNat (↑(Int.toNat (↑(Int.toNat (↑(Int.toNat (D.I e)) : Int) - 1) : Int)) : Int) + List.length (backF (D.L b) (ix (List.getD (popR (D.L f) (Int.toNat (↑(Int.toNat (D.I e)) : Int))) (Int.toNat (↑(Int.toNat (D.I e)) : Int) - 1) []) 0) (ix (List.getD (popR (D.L f) (Int.toNat (↑(Int.toNat (D.I e)) : Int))) (Int.toNat (↑(Int.toNat (D.I e)) : Int) - 1) []) 1) 0 (List.length (D.L b))) < 549755813888 ∧ ∀ (e_1 : List D), e_1 ∈ backF (D.L b) (ix (List.getD (popR (D.L f) (Int.toNat (↑(Int.toNat (D.I e)) : Int))) (Int.toNat (↑(Int.toNat (D.I e)) : Int) - 1) []) 0) (ix (List.getD (popR (D.L f) (Int.toNat (↑(Int.toNat (D.I e)) : Int))) (Int.toNat (↑(Int.toNat (D.I e)) : Int) - 1) []) 1) 0 (List.length (D.L b)) → (0 : Int) ≤ ix e_1 0 ∧ ix e_1 0 < (↑(Int.toNat (↑(Int.toNat (D.I c)) : Int)) : Int))) (T.leaf (Rd.again [D.i (D.I a), D.l (D.L b), D.i (↑(Int.toNat (↑(Int.toNat (↑(Int.toNat (D.I c)) : Int)) : Int)) : Int), D.l (relF (backF (D.L b) (ix (List.getD (popR (D.L f) (Int.toNat (↑(Int.toNat (D.I e)) : Int))) (Int.toNat (↑(Int.toNat (D.I e)) : Int) - 1) []) 0) (ix (List.getD (popR (D.L f) (Int.toNat (↑(Int.toNat (D.I e)) : Int))) (Int.toNat (↑(Int.toNat (D.I e)) : Int) - 1) []) 1) 0 (List.length (D.L b))) (mkSr (D.l (D.L d)) (D.i (↑(Int.toNat (↑(Int.toNat (↑(Int.toNat (D.I e)) : Int) - 1) : Int)) : Int)) (D.l (popR (D.L f) (Int.toNat (↑(Int.toNat (D.I e)) : Int)))))).o, D.i (↑(Int.toNat (↑(relF (backF (D.L b) (ix (List.getD (popR (D.L f) (Int.toNat (↑(Int.toNat (D.I e)) : Int))) (Int.toNat (↑(Int.toNat (D.I e)) : Int) - 1) []) 0) (ix (List.getD (popR (D.L f) (Int.toNat (↑(Int.toNat (D.I e)) : Int))) (Int.toNat (↑(Int.toNat (D.I e)) : Int) - 1) []) 1) 0 (List.length (D.L b))) (mkSr (D.l (D.L d)) (D.i (↑(Int.toNat (↑(Int.toNat (↑(Int.toNat (D.I e)) : Int) - 1) : Int)) : Int)) (D.l (popR (D.L f) (Int.toNat (↑(Int.toNat (D.I e)) : Int)))))).k : Int)) : Int), D.l (relF (backF (D.L b) (ix (List.getD (popR (D.L f) (Int.toNat (↑(Int.toNat (D.I e)) : Int))) (Int.toNat (↑(Int.toNat (D.I e)) : Int) - 1) []) 0) (ix (List.getD (popR (D.L f) (Int.toNat (↑(Int.toNat (D.I e)) : Int))) (Int.toNat (↑(Int.toNat (D.I e)) : Int) - 1) []) 1) 0 (List.length (D.L b))) (mkSr (D.l (D.L d)) (D.i (↑(Int.toNat (↑(Int.toNat (↑(Int.toNat (D.I e)) : Int) - 1) : Int)) : Int)) (D.l (popR (D.L f) (Int.toNat (↑(Int.toNat (D.I e)) : Int)))))).q])))))))) (T.leaf (Rd.out (Ex.exit 2) [D.i (↑(Int.toNat (D.I c)) : Int), D.l (D.L d)]))) := by kernel_rfl
theorem t1073_r14 (a b c d e f g h i j : D) : roundRT C tab1073 73 (rangeOf C.P 73 14) 0 5 [2, 6, 7, 9, 51] h1073_14 y103 [a, b, c, d, e, f, g, h] [i, j] =
  T.need (decide ((0 : Int) ≤ D.I i ∧ D.I i < (↑(Int.toNat (D.I e)) : Int))) (T.need (decide (Int.toNat (D.I i) < List.length (D.L f))) (T.ite (decide (D.I j < D.I (List.getD (List.getD (D.L f) (Int.toNat (D.I i)) []) 0 default))) (T.need (decide ((0 : Int) ≤ D.I i ∧ D.I i < (↑(Int.toNat (D.I e)) : Int))) (T.need (decide (Int.toNat (D.I i) < List.length (D.L f))) (T.need (yes (Int.toNat (↑(Int.toNat (D.I g)) : Int) ≤ List.length (D.L h) ∧ Int.toNat (↑(Int.toNat (D.I g)) : Int) < 1099511627776)) (T.leaf (Rd.again [D.i (D.I a), D.l (D.L b), D.i (D.I c), D.l (D.L d), D.i (↑(Int.toNat (D.I e)) : Int), D.l (List.set (D.L f) (Int.toNat (D.I i)) (updC (List.getD (D.L f) (Int.toNat (D.I i)) []) [D.i (D.I j)] 0 0 (List.length [K.int IntKind.i64]))), D.i (↑(Int.toNat (↑(Int.toNat (↑(Int.toNat (D.I g)) : Int) + 1) : Int)) : Int), D.l (pushR (D.L h) (Int.toNat (↑(Int.toNat (D.I g)) : Int)) (D.I i) (D.I j))], []))))) (T.leaf (Rd.again [D.i (D.I a), D.l (D.L b), D.i (D.I c), D.l (D.L d), D.i (↑(Int.toNat (D.I e)) : Int), D.l (D.L f), D.i (↑(Int.toNat (D.I g)) : Int), D.l (D.L h)], [])))) := by kernel_rfl
theorem t97 (a b c d : D) : fnT C tab97 97 s97 [a, b, c, d] =
  T.need (yes ((0 : Int) ≤ D.I a ∧ D.I a < (1099511627776 : Int) ∧ (0 : Int) ≤ D.I c ∧ D.I c < D.I a ∧ haltB (Int.toNat (D.I a)) (D.L b) (startS (D.I a) (D.I c) (IntKind.wrap IntKind.i64 ((0 : Int) - D.I d))))) (T.need (yes ((↑(Int.toNat (D.I a)) : Int) = (↑(Int.toNat (↑(Int.toNat (D.I a)) : Int)) : Int) ∧ Int.toNat (↑(Int.toNat (D.I a)) : Int) ≤ List.length (resB (Int.toNat (D.I a)) (D.L b) (startS (D.I a) (D.I c) (IntKind.wrap IntKind.i64 ((0 : Int) - D.I d)))) ∧ (0 : Int) ≤ (0 : Int) ∧ (0 : Int) ≤ (↑(Int.toNat (D.I a)) : Int) ∧ (↑(Int.toNat (D.I a)) : Int) < (1099511627776 : Int) ∧ okN (resB (Int.toNat (D.I a)) (D.L b) (startS (D.I a) (D.I c) (IntKind.wrap IntKind.i64 ((0 : Int) - D.I d)))))) (T.leaf [D.i (↑(Int.toNat (↑(Int.toNat (↑(Int.toNat (D.I a)) : Int)) : Int)) : Int), D.l (negF (Int.toNat (0 : Int)) (Int.toNat (↑(Int.toNat (D.I a)) : Int) - Int.toNat (0 : Int)) (resB (Int.toNat (D.I a)) (D.L b) (startS (D.I a) (D.I c) (IntKind.wrap IntKind.i64 ((0 : Int) - D.I d)))))])) := by kernel_rfl
theorem t97_3 (a b c d : D) : roundT C tab97 97 (loopOf C.P 97 3) l97_3 [a, b, c, d] =
  T.ite (decide (D.I c < D.I b)) (T.need (decide ((0 : Int) ≤ D.I c ∧ D.I c < (↑(Int.toNat (D.I a)) : Int))) (T.need (decide (Int.toNat (D.I c) < List.length (D.L d))) (T.need (decide ((0 : Int) ≤ D.I c ∧ D.I c < (↑(Int.toNat (D.I a)) : Int))) (T.need (decide (Int.toNat (D.I c) < List.length (D.L d))) (T.leaf (Rd.again [D.i (↑(Int.toNat (D.I a)) : Int), D.i (D.I b), D.i (IntKind.wrap IntKind.i64 (D.I c + (1 : Int))), D.l (List.set (D.L d) (Int.toNat (D.I c)) (updC (List.getD (D.L d) (Int.toNat (D.I c)) []) [D.i (IntKind.wrap IntKind.i64 ((0 : Int) - D.I (List.getD (List.getD (D.L d) (Int.toNat (D.I c)) []) 0 default)))] 0 0 (List.length [K.int IntKind.i64])))])))))) (T.leaf (Rd.out (Ex.exit 0) [D.i (↑(Int.toNat (D.I a)) : Int), D.l (D.L d)])) := by kernel_rfl
end Go.Proofs.Ytgmefblkmidglaa

namespace Go.Proofs.Ytgmefblkmidglaa
open Go.Lite
set_option maxRecDepth 100000
set_option linter.unusedVariables false
theorem backY_len (l : List (List D)) : ∀ k, (backY l k).length = k
  | 0 => rfl
  | k + 1 => by simp only [backY, List.length_cons, backY_len l k]
theorem leavG_back {l : List (List D)} {c : Int} : ∀ (k : Nat) (s : Int), leavG c (backY l k) s = leavF l c k s
  | 0, _ => rfl
  | k + 1, s => leavG_back k _
theorem okY_back {l : List (List D)} (h : okC l) : ∀ k, okY (backY l k)
  | 0 => fun e he => by cases he
  | k + 1 => fun e he => by
    simp only [backY] at he
    rcases List.mem_cons.1 he with rfl | he
    · exact h.2 k
    · exact okY_back h k e he
theorem leavF_okS {l : List (List D)} {c : Int} (hc : okT c) (hl : okC l) : ∀ (k : Nat) (s : Int), okS s → okS (leavF l c k s)
  | 0, _, h => h
  | k + 1, s, h => by
    simp only [leavF]
    refine leavF_okS hc hl k _ ?_
    have := hl.2 k
    unfold okS okT at *
    split <;> omega
theorem ok106_1 (q n : Nat) : LoopSimY C n 1 106 (loopOf C.P 106 1) (some y106) q (mkLY 1 l106_1 (G106_1 q)) := by
  refine loop_ofY hC (sp := sp106) (lp := lp106 q) (sw := sw106) (Y := y106) (yOK_mk _ _ _) trivial trivial 1 [] (by kernel_rfl) rfl (by kernel_rfl) (fun k hk => by cases hk) (by kernel_rfl) (fun ds => ((ds.getD 1 default).I + 1).toNat) fun ds rr h => ?_
  unfold G106_1 at h
  split at h
  · rename_i g i l
    obtain ⟨hp, h⟩ := need_some h
    rw [yes_iff] at hp
    obtain ⟨hl, hi0, hi1, hg⟩ := hp
    have hb := big_eq
    refine ⟨by rw [fuelC]; simp; omega, ?_⟩
    rw [show roundTY C (mkTabY sp106 (lp106 q) sw106 y106 q) 106 (loopOf C.P 106 1) 1 l106_1 [g, i, l] = _ from t106_1 q g i l]
    have hq : (tab106 q).q = q := rfl
    simp only [ix_def, Nat.reduceAdd, hq]
    refine rd_if (fun hge => ?_) fun hlt => ?_
    · obtain ⟨k, hk⟩ : ∃ k : Nat, i.I = k := ⟨i.I.toNat, by omega⟩
      have e1 : (i.I + 1).toNat = k + 1 := by omega
      rw [e1] at h
      simp only [backY] at h
      simp only [hk, Int.toNat_natCast] at hi1 ⊢
      rw [wrap_pred (by omega)]
      refine rd_dec (by omega) (rd_ite (fun c2 => ?_) fun c2 => ?_)
      · rw [Bool.not_not] at c2
        have c2 : g.L.length = q := by simpa using c2
        rw [run_ite, if_pos (by simp; omega)] at h
        rw [show q + 1 - g.L.length = 1 by omega] at h
        exact rd_out h
      · rw [Bool.not_not] at c2
        have c2 : g.L.length ≠ q := by
          have : ¬ (g.L.length == q) = true := by rw [show (g.L.length == q) = false from c2]; simp
          simpa using this
        refine rd_again ((need_yes ⟨hl, by simp only [I_i]; omega, by simp only [I_i, L_l]; omega, by simp only [L_l, List.length_append, List.length_cons, List.length_nil]; omega⟩).trans ?_) (show ((k : Int) - 1 + 1).toNat < (i.I + 1).toNat by omega)
        simp only [I_i, L_l, show ((k : Int) - 1 + 1).toNat = k by omega, List.length_append, List.length_cons, List.length_nil, List.append_nil, List.append_assoc, List.cons_append, List.nil_append]
        rw [show q + 1 - g.L.length = (q + 1 - (g.L.length + (0 + 1))) + 1 by omega, List.take_succ_cons] at h
        rw [show g.L.length + (0 + 1) + k = g.L.length + (k + 1) by omega]
        exact h
    · rw [show (i.I + 1).toNat = 0 by omega] at h
      simp only [backY, List.append_nil] at h
      rw [run_ite] at h
      split at h
      · rename_i hc
        have := of_decide_eq_true hc
        omega
      · exact rd_out h
  · cases h
theorem ok106 (n : Nat) : IterOK C (n + 1) 106 y106 (mkFY s106 G106) := by
  refine iter_of hC (sp := sp106) (lp := lp106) (sw := sw106) (Y := y106) (yOK_mk _ _ _) trivial trivial (by kernel_rfl) [1] (by kernel_rfl) (by kernel_rfl) (by kernel_rfl) (fun q k hk L hL => by
    simp at hk; subst hk; cases hL; exact ok106_1 q n) fun ds L h q => ?_
  unfold G106 at h
  split at h
  · rename_i l
    obtain ⟨hp, h⟩ := need_some h
    rw [yes_iff] at hp
    cases h
    have hb := big_eq
    have hw : IntKind.i64.wrap ((l.L.length : Int) - 1) = (l.L.length : Int) - 1 := wrap_pred (by omega)
    refine (congrArg T.run (t106 q l)).trans ?_
    rw [hw, show ((l.L.length : Int) - 1 + 1).toNat = l.L.length by omega]
    have hbl := backY_len l.L l.L.length
    refine go_yes ⟨hp, by omega, by omega, by simp⟩ (go_if (fun c => ?_) fun c => ?_)
    · simp only [List.nil_append, List.length_nil, Nat.sub_zero, run_leaf]
    · have c : ¬ q < l.L.length := fun h => c (by simpa using h)
      simp only [List.nil_append, run_leaf]
      rw [List.take_of_length_le (by omega)]
  · cases h
theorem ok105 (n : Nat) : FnOKW C (n + 1) 105 (mkFW s105 G105) := by
  refine fn_ofW hC (sp := sp105) (lp := lp105) (sw := sw105) trivial trivial (by kernel_rfl) [] (by kernel_rfl) rfl (fun k hk => by cases hk) fun ds r h => ?_
  unfold G105 at h
  split at h
  · rename_i l
    exact (congrArg T.run (t105 l)).trans h
  · cases h
theorem head106 (e : List D) : y106.head e = y106.head [e.getD 0 default, e.getD 1 default, e.getD 2 default] := by
  match e with
  | [] => rfl
  | [_] => rfl
  | [_, _] => rfl
  | _ :: _ :: _ :: _ => rfl
theorem fold104 (L : List (List D)) : ∀ (ds : List D) (rr : Ex × List D), (G104_3 L ds).run = some rr → FoldR (fun ds el => (roundRT C tab104 104 (rangeOf C.P 104 3) 0 2 [2, 3, 4, 9] h104_3 y106 ds el).run) y106.give (fun a b => headA h104_3 a = headA h104_3 b) ds L rr.1 rr.2 := by
  induction L with
  | nil =>
    intro ds rr h
    unfold G104_3 at h
    split at h
    · rename_i z a b c l s
      obtain ⟨-, h⟩ := need_some h
      cases h
      exact .nil (by rfl)
    · cases h
  | cons e es ih =>
    intro ds rr h
    unfold G104_3 at h
    split at h
    · rename_i z a b c l s
      obtain ⟨hp, h⟩ := need_some h
      rw [yes_iff] at hp
      obtain ⟨hc, hs, hY⟩ := hp
      have he := hY e List.mem_cons_self
      have hes : okY es := fun x hx => hY x (List.mem_cons_of_mem _ hx)
      simp only [leavG] at h
      have key : ∀ (i j k : D), j.I = ix e 1 → k.I = ix e 2 → ∃ ds', (roundRT C tab104 104 (rangeOf C.P 104 3) 0 2 [2, 3, 4, 9] h104_3 y106 [z, a, b, c, l, s] [i, j, k]).run = some (.again ds', []) ∧ (G104_3 es ds').run = some rr := by
        intro i j k hj hk
        have ht := congrArg T.run (t104_r3 z a b c l s i j k)
        rw [ht]
        have hnext : ∀ x, okS x → (if s.I + c.I > ix e 1 ∧ s.I < ix e 2 then ix e 1 - c.I else s.I) = x → (G104_3 es [.i z.I, .i a.I, .i b.I, .i c.I, .l l.L, .i x]).run = some rr := fun x hx hxe => by
          refine (need_yes ⟨hc, hx, hes⟩).trans ?_
          rw [hxe] at h
          exact h
        unfold okS at hs hnext
        unfold okT at hc
        rw [wrap_id (x := s.I + c.I) (by omega) (by omega), hj, hk, wrap_id (x := ix e 1 - c.I) (by omega) (by omega)]
        by_cases c1 : s.I + c.I > ix e 1
        · by_cases c2 : s.I < ix e 2
          · exact ⟨_, go_pos c1 (go_pos c2 rfl), hnext _ (by omega) (if_pos ⟨c1, c2⟩)⟩
          · exact ⟨_, go_pos c1 (go_neg c2 rfl), hnext _ (by omega) (if_neg fun hh => c2 hh.2)⟩
        · exact ⟨_, go_neg c1 rfl, hnext _ (by omega) (if_neg fun hh => c1 hh.1)⟩
      obtain ⟨ds', k1, k2⟩ := key (e.getD 0 default) (e.getD 1 default) (e.getD 2 default) rfl rfl
      refine .again (x' := []) (ds' := ds') ?_ (fun h => by cases h) (ih _ _ k2)
      have : roundRT C tab104 104 (rangeOf C.P 104 3) 0 2 [2, 3, 4, 9] h104_3 y106 [z, a, b, c, l, s] e = roundRT C tab104 104 (rangeOf C.P 104 3) 0 2 [2, 3, 4, 9] h104_3 y106 [z, a, b, c, l, s] [e.getD 0 default, e.getD 1 default, e.getD 2 default] := by
        unfold roundRT
        rw [head106 e]
      rw [this]
      exact k1
    · cases h
theorem ok104_3 (n : Nat) : CodeSim C (n + 1) 0 104 (rangeOf C.P 104 3).code none 0 (rangeS 0 [2, 3, 4, 9] (rangeOf C.P 104 3).1 it104_3 h104_3 G104_3) :=
  range_of hC (sp := sp104) (lp := lp104) (sw := sw104) (rg := rg104) (Y := y106) (yOK_mk _ _ _) trivial ⟨ok105 n, trivial⟩ 3 0 2 [] (by kernel_rfl) rfl (by kernel_rfl) (by exact ⟨by kernel_rfl, by kernel_rfl⟩) (fun k hk => by cases hk)
    (by kernel_rfl) (by kernel_rfl) (it := it104_3) ⟨ok106 n, trivial⟩ fun L ds rr h => fold104 L ds rr h
theorem ok104 (n : Nat) : FnOK C (n + 2) 104 (mkF s104 G104) := by
  refine fn_ofR hC (sp := sp104) (lp := lp104) (sw := sw104) (rg := rg104) trivial ⟨ok105 n, trivial⟩ (by kernel_rfl) [] [3] (by kernel_rfl) rfl (by kernel_rfl) (by kernel_rfl) (fun k hk => by cases hk) (fun k hk L hL => by
    simp at hk; subst hk; cases hL; exact ok104_3 n) fun ds r h => ?_
  unfold G104 at h
  split at h
  · rename_i a b c l s
    obtain ⟨hp, h⟩ := need_some h
    rw [yes_iff] at hp
    refine (congrArg T.run (t104 a b c l s)).trans ?_
    rw [leavG_back]
    exact go_yes hp.2.2.1 (go_yes ⟨hp.1, hp.2.1, okY_back hp.2.2 _⟩ h)
  · cases h
theorem backF_step {r : List (List D)} {v t : Int} {j : Nat} (hj : j < r.length) : backF r v t j (r.length - j) = if ix (r.getD j []) 1 = v then [.i (ix (r.getD j []) 0), .i (-(leaW (r.getD j []) (-t - ix (r.getD j []) 2)))] :: backF r v t (j + 1) (r.length - (j + 1)) else backF r v t (j + 1) (r.length - (j + 1)) := by
  rw [show r.length - j = (r.length - (j + 1)) + 1 by omega]
  rfl
theorem ok103_1 (q n : Nat) : LoopSimY C (n + 2) 2 103 (loopOf C.P 103 1) (some y103) q (mkLY 2 l103_1 (G103_1 q)) := by
  refine loop_ofY hC (sp := sp103) (lp := lp103 q) (sw := sw103) (Y := y103) (yOK_mk _ _ _) ⟨ok104 n, trivial⟩ trivial 2 [] (by kernel_rfl) rfl (by kernel_rfl) (fun k hk => by cases hk) (by kernel_rfl) (fun ds => ((ds.getD 2 default).I - (ds.getD 3 default).I).toNat) fun ds rr h => ?_
  unfold G103_1 at h
  split at h
  · rename_i g r m i v t
    obtain ⟨hp, h⟩ := need_some h
    rw [yes_iff] at hp
    obtain ⟨hr, ht, hm, hi0, hi1, hg⟩ := hp
    have hrl := hr.1
    refine ⟨by rw [fuelC]; simp; omega, ?_⟩
    rw [show roundTY C (mkTabY sp103 (lp103 q) sw103 y103 q) 103 (loopOf C.P 103 1) 2 l103_1 [g, r, m, i, v, t] = _ from t103_1 q g r m i v t]
    obtain ⟨j, hj⟩ : ∃ j : Nat, i.I = j := ⟨i.I.toNat, by omega⟩
    have hq : (tab103 q).q = q := rfl
    simp only [hj, hm, Int.toNat_natCast, ix_def, lx_def, Nat.reduceAdd, hq] at h hi0 hi1 ⊢
    have hnext : ∀ {G' : List (List D)}, G'.length ≤ q → ((T.ite (decide (q < G'.length + (backF r.L v.I t.I (j + 1) (r.L.length - (j + 1))).length)) (T.leaf (Ex.ret, [D.l (G' ++ (backF r.L v.I t.I (j + 1) (r.L.length - (j + 1))).take (q + 1 - G'.length)), D.i v.I, D.i t.I]))
        (T.leaf (Ex.exit 0, [D.l (G' ++ backF r.L v.I t.I (j + 1) (r.L.length - (j + 1))), D.i v.I, D.i t.I]))).run = some rr) → j < r.L.length → (G103_1 q [D.l G', D.l r.L, D.i (r.L.length : Int), D.i ((j + 1 : Nat) : Int), D.i v.I, D.i t.I]).run = some rr := fun {G'} hG' h hlt => by
      refine (need_yes ⟨hr, ht, by simp only [I_i, L_l], by simp only [I_i]; omega, by simp only [I_i, L_l]; omega, hG'⟩).trans ?_
      simp only [I_i, L_l, Int.toNat_natCast]
      exact h
    have hmu : j < r.L.length → ((r.L.length : Int) - ((j + 1 : Nat) : Int)).toNat < (m.I - i.I).toNat := fun _ => by rw [hj, hm]; omega
    refine rd_if (fun hlt => ?_) fun hge => ?_
    · have hlt : j < r.L.length := by omega
      rw [backF_step hlt] at h
      obtain ⟨hs, hc⟩ := hr.2 j hlt
      have ht2 : okS (-t.I - ix (r.L.getD j []) 2) := by unfold okU okT okS at *; omega
      have he := leavF_okS hs hc (lx (r.L.getD j []) 3).length _ ht2
      unfold okS at he ht2
      unfold okT at hs
      have hw1 : IntKind.i64.wrap (0 - t.I) = -t.I := by rw [Int.zero_sub]; unfold okU at ht; exact wrap_id (by omega) (by omega)
      rw [wrap_succ (by omega), hw1, wrap_id (x := -t.I - ix (r.L.getD j []) 2) (by omega) (by omega), Int.zero_sub]
      refine rd_dec (by omega) (rd_ite (fun c1 => ?_) fun c1 => ?_)
      · rw [beq_iff_eq] at c1
        rw [if_pos c1] at h
        simp only [List.length_cons] at h
        rw [wrap_id (x := -(leavF _ _ _ _)) (by omega) (by omega)]
        refine rd_yes ⟨hs, ht2, hc⟩ (rd_ite (fun c2 => ?_) fun c2 => ?_)
        · rw [Bool.not_not] at c2
          have c2 : g.L.length = q := by simpa using c2
          rw [run_ite, if_pos (by simp; omega)] at h
          rw [show q + 1 - g.L.length = 1 by omega] at h
          exact rd_out h
        · rw [Bool.not_not] at c2
          have c2 : g.L.length ≠ q := by
            have : ¬ (g.L.length == q) = true := by rw [show (g.L.length == q) = false from c2]; simp
            simpa using this
          refine rd_again (hnext (by simp; omega) ?_ hlt) (hmu hlt)
          simp only [List.length_append, List.length_cons, List.length_nil, List.append_nil, List.append_assoc, List.cons_append, List.nil_append]
          rw [show q + 1 - g.L.length = (q + 1 - (g.L.length + (0 + 1))) + 1 by omega, List.take_succ_cons] at h
          rw [show g.L.length + (0 + 1) + (backF r.L v.I t.I (j + 1) (r.L.length - (j + 1))).length = g.L.length + ((backF r.L v.I t.I (j + 1) (r.L.length - (j + 1))).length + 1) by omega]
          exact h
      · rw [beq_eq_false_iff_ne] at c1
        rw [if_neg c1] at h
        exact rd_again (hnext hg h hlt) (hmu hlt)
    · rw [show r.L.length - j = 0 by omega] at h
      simp only [backF, List.length_nil, List.append_nil] at h
      rw [run_ite] at h
      split at h
      · rename_i hc
        have := of_decide_eq_true hc
        omega
      · exact rd_out h
  · cases h
theorem ok103 (n : Nat) : IterOK C (n + 3) 103 y103 (mkFY s103 G103) := by
  refine iter_of hC (sp := sp103) (lp := lp103) (sw := sw103) (Y := y103) (yOK_mk _ _ _) ⟨ok104 n, trivial⟩ trivial (by kernel_rfl) [1] (by kernel_rfl) (by kernel_rfl) (by kernel_rfl) (fun q k hk L hL => by
    simp at hk; subst hk; cases hL; exact ok103_1 q n) fun ds L h q => ?_
  unfold G103 at h
  split at h
  · rename_i n' r v t
    obtain ⟨hp, h⟩ := need_some h
    rw [yes_iff] at hp
    cases h
    refine (congrArg T.run (t103 q n' r v t)).trans (go_yes ⟨hp.1, hp.2, rfl, by omega, by omega, by simp⟩ (go_if (fun c => ?_) fun c => ?_))
    · simp only [List.nil_append, List.length_nil, Nat.sub_zero, run_leaf]
      rfl
    · have c : ¬ q < (backF r.L v.I t.I 0 r.L.length).length := fun h => c (by simpa using h)
      simp only [List.nil_append, run_leaf]
      rw [List.take_of_length_le (by omega)]
      rfl
  · cases h
theorem ok102 (n : Nat) : FnOKW C (n + 1) 102 (mkFW s102 G102) := by
  refine fn_ofW hC (sp := sp102) (lp := lp102) (sw := sw102) trivial trivial (by kernel_rfl) [] (by kernel_rfl) rfl (fun k hk => by cases hk) fun ds r h => ?_
  unfold G102 at h
  split at h
  · rename_i v t m l
    exact (congrArg T.run (t102 v t m l)).trans h
  · cases h
theorem ok1073_3 (n : Nat) : LoopSim C (n + 4) 73 (loopOf C.P 73 3) (mkL l1073_3 G1073_3) := by
  refine loop_ofR hC (sp := sp1073) (lp := lp1073) (sw := sw1073) (rg := rg1073) ⟨ok123 (n + 3), trivial⟩ ⟨ok93 (n + 1), ok102 (n + 3), ok127 n, trivial⟩ 0 [] [] (by kernel_rfl) rfl (by kernel_rfl) rfl (fun k hk => by cases hk) (fun k hk => by cases hk) (by kernel_rfl) (fun ds => ((ds.getD 2 default).I - (ds.getD 3 default).I).toNat) fun ds rr h => ?_
  unfold G1073_3 G73_3 at h
  split at h
  · rename_i a r m i x y k l
    obtain ⟨hp, h⟩ := need_some h
    rw [yes_iff] at hp
    obtain ⟨hm, hk, hi0, hi1, hm2⟩ := hp
    refine ⟨by rw [fuelC]; simp; omega, ?_⟩
    rw [show roundTK C (mkTabR sp1073 lp1073 sw1073 rg1073) 73 (loopOf C.P 73 3) 0 l1073_3 [a, r, m, i, x, y, k, l] = _ from t1073_3 a r m i x y k l]
    obtain ⟨j, hj⟩ : ∃ j : Nat, i.I = j := ⟨i.I.toNat, by omega⟩
    simp only [hj, hm, Int.toNat_natCast, upd1, rs_def] at h hi0 hi1 hm2 ⊢
    refine rd_if (fun hlt => ?_) fun hge => ?_
    · rw [wrap_succ (by omega)]
      rw [show k.I.toNat - j = (k.I.toNat - (j + 1)) + 1 by omega] at h
      refine rd_dec (by omega) (rd_dec (by omega) (rd_again ((need_yes ⟨by simp only [I_i, Int.toNat_natCast], by simp only [I_i, L_l, Int.toNat_natCast, len_rs]; exact hk, by simp only [I_i]; omega, by simp only [I_i]; omega, by simp only [I_i]; omega⟩).trans ?_) ?_))
      · simp only [I_i, L_l, Int.toNat_natCast]
        exact h
      · show ((k.I.toNat : Int) - ((j + 1 : Nat) : Int)).toNat < (m.I - i.I).toNat
        rw [hj, hm]; omega
    · rw [show k.I.toNat - j = 0 by omega] at h
      exact rd_out h
  · cases h
theorem head103 (e : List D) : y103.head e = y103.head [e.getD 0 default, e.getD 1 default] := by
  match e with
  | [] => rfl
  | [_] => rfl
  | _ :: _ :: _ => rfl
theorem fold1073 (L : List (List D)) : ∀ (ds : List D) (rr : Ex × List D), (G1073_14 L ds).run = some rr → FoldR (fun ds el => (roundRT C tab1073 73 (rangeOf C.P 73 14) 0 5 [2, 6, 7, 9, 51] h1073_14 y103 ds el).run) y103.give (fun a b => headA h1073_14 a = headA h1073_14 b) ds L rr.1 rr.2 := by
  induction L with
  | nil =>
    intro ds rr h
    unfold G1073_14 G73_14 at h
    split at h
    · rename_i a r a' r' m o k q
      obtain ⟨-, h⟩ := need_some h
      cases h
      exact .nil (by rfl)
    · cases h
  | cons e es ih =>
    intro ds rr h
    unfold G1073_14 G73_14 at h
    split at h
    · rename_i a r a' r' m o k q
      obtain ⟨hp, h⟩ := need_some h
      rw [yes_iff] at hp
      obtain ⟨h1, h2, h3, h4⟩ := hp
      simp only [List.length_cons] at h3
      obtain ⟨e1, e2⟩ := h4 e List.mem_cons_self
      have h5 : ∀ x ∈ es, 0 ≤ ix x 0 ∧ ix x 0 < (m.I.toNat : Int) := fun x hx => h4 x (List.mem_cons_of_mem _ hx)
      have key : ∀ (i j : D), i.I = ix e 0 → j.I = ix e 1 → ∃ ds', (roundRT C tab1073 73 (rangeOf C.P 73 14) 0 5 [2, 6, 7, 9, 51] h1073_14 y103 [a, r, a', r', m, o, k, q] [i, j]).run = some (.again ds', []) ∧ (G1073_14 es ds').run = some rr := by
        intro i j hi hj
        have ht := congrArg T.run (t1073_r14 a r a' r' m o k q i j)
        rw [ht]
        simp only [hi, hj, Int.toNat_natCast, upd1, rs_def, rg_def]
        by_cases hc : ix e 1 < rg o.L (ix e 0).toNat
        · have hrel : relF (e :: es) (mkSr o k q) = relF es ⟨rs o.L (ix e 0).toNat (ix e 1), k.I.toNat + 1, pushR q.L k.I.toNat (ix e 0) (ix e 1)⟩ := by
            simp only [relF]
            exact if_pos hc
          rw [hrel] at h
          refine ⟨_, go_dec ⟨e1, e2⟩ (go_dec (by omega) (go_pos hc (go_dec ⟨e1, e2⟩ (go_dec (by omega) (go_yes ⟨h2, by omega⟩ rfl))))), ?_⟩
          refine (need_yes ⟨by simp only [I_i, L_l, Int.toNat_natCast, len_rs]; exact h1, by simp only [I_i, L_l, Int.toNat_natCast]; rw [len_push _ _ _ h2]; exact Nat.le_refl _, by simp only [I_i, Int.toNat_natCast]; omega, by simp only [I_i, Int.toNat_natCast]; exact h5⟩).trans ?_
          simp only [mkSr, I_i, L_l, Int.toNat_natCast]
          exact h
        · have hrel : relF (e :: es) (mkSr o k q) = relF es (mkSr o k q) := by
            simp only [relF]
            exact if_neg hc
          rw [hrel] at h
          refine ⟨_, go_dec ⟨e1, e2⟩ (go_dec (by omega) (go_neg hc rfl)), ?_⟩
          refine (need_yes ⟨by simp only [I_i, L_l, Int.toNat_natCast]; exact h1, by simp only [I_i, L_l, Int.toNat_natCast]; exact h2, by simp only [I_i, Int.toNat_natCast]; omega, by simp only [I_i, Int.toNat_natCast]; exact h5⟩).trans ?_
          simp only [mkSr, I_i, L_l, Int.toNat_natCast] at h ⊢
          exact h
      obtain ⟨ds', k1, k2⟩ := key (e.getD 0 default) (e.getD 1 default) rfl rfl
      refine .again (x' := []) (ds' := ds') ?_ (fun h => by cases h) (ih _ _ k2)
      have : roundRT C tab1073 73 (rangeOf C.P 73 14) 0 5 [2, 6, 7, 9, 51] h1073_14 y103 [a, r, a', r', m, o, k, q] e = roundRT C tab1073 73 (rangeOf C.P 73 14) 0 5 [2, 6, 7, 9, 51] h1073_14 y103 [a, r, a', r', m, o, k, q] [e.getD 0 default, e.getD 1 default] := by
        unfold roundRT
        rw [head103 e]
      rw [this]
      exact k1
    · cases h
theorem ok1073_14 (n : Nat) : CodeSim C (n + 4) 0 73 (rangeOf C.P 73 14).code none 0 (rangeS 0 [2, 6, 7, 9, 51] (rangeOf C.P 73 14).1 it1073_14 h1073_14 G1073_14) :=
  range_of hC (sp := sp1073) (lp := lp1073) (sw := sw1073) (rg := rg1073) (Y := y103) (yOK_mk _ _ _) ⟨ok123 (n + 3), trivial⟩ ⟨ok93 (n + 1), ok102 (n + 3), ok127 n, trivial⟩ 14 0 5 [] (by kernel_rfl) rfl (by kernel_rfl) (by exact ⟨by kernel_rfl, by kernel_rfl⟩) (fun k hk => by cases hk)
    (by kernel_rfl) (by kernel_rfl) (it := it1073_14) ⟨ok103 (n + 1), trivial⟩ fun L ds rr h => fold1073 L ds rr h
theorem ends_uniqB {m : Nat} {r : List (List D)} : ∀ {f g : Nat} {s : Sr}, endsB m r f s → endsB m r g s → f = g
  | 0, 0, _, _, _ => rfl
  | 0, g + 1, s, h, h' => absurd h h'.1
  | f + 1, 0, s, h, h' => absurd h' h.1
  | f + 1, g + 1, s, h, h' => by rw [ends_uniqB h.2.2 h'.2.2]
theorem lenB_eq {m : Nat} {r : List (List D)} {f : Nat} {s : Sr} (h : endsB m r f s) : lenB m r s = f := ends_uniqB (Classical.epsilon_spec (p := fun f => endsB m r f s) ⟨f, h⟩) h
theorem resB_eq {m : Nat} {r : List (List D)} {f : Nat} {s : Sr} (h : endsB m r f s) : resB m r s = runG (stepG (nxB r)) f s := by unfold resB; rw [lenB_eq h]
theorem halt_zeroB {m : Nat} {r : List (List D)} {s : Sr} (hk : s.k = 0) : resB m r s = s.o ∧ lenB m r s = 0 := by
  have : endsB m r 0 s := hk
  exact ⟨resB_eq this, lenB_eq this⟩
theorem halt_stepB {m : Nat} {r : List (List D)} {s : Sr} (h : haltB m r s) (hk : s.k ≠ 0) : needB m r s ∧ haltB m r (stepG (nxB r) s) ∧ resB m r s = resB m r (stepG (nxB r) s) ∧ lenB m r (stepG (nxB r) s) < lenB m r s ∧ lenB m r s < 9223372036854775808 := by
  obtain ⟨f, hf, he⟩ := h
  cases f with
  | zero => exact absurd he hk
  | succ f =>
    have he' := he
    obtain ⟨-, h1, h2⟩ := he
    exact ⟨h1, ⟨f, by omega, h2⟩, by rw [resB_eq he', resB_eq h2]; rfl, by rw [lenB_eq he', lenB_eq h2]; omega, by rw [lenB_eq he']; exact hf⟩
theorem back_len {r : List (List D)} {v t : Int} : ∀ (k i : Nat), (backF r v t i k).length ≤ k
  | 0, _ => Nat.le_refl _
  | k + 1, i => by
    simp only [backF]
    have := back_len (r := r) (v := v) (t := t) k (i + 1)
    split
    · simp only [List.length_cons]; omega
    · omega
theorem ok1073_9 (n : Nat) : LoopSim C (n + 4) 73 (loopOf C.P 73 9) (mkL l1073_9 G1073_9) := by
  refine loop_ofR hC (sp := sp1073) (lp := lp1073) (sw := sw1073) (rg := rg1073) ⟨ok123 (n + 3), trivial⟩ ⟨ok93 (n + 1), ok102 (n + 3), ok127 n, trivial⟩ 0 [] [14] (by kernel_rfl) rfl (by kernel_rfl) (by kernel_rfl) (fun k hk => by cases hk)
    (fun k hk L hL => by simp at hk; subst hk; cases hL; exact ok1073_14 n) (by kernel_rfl) (fun ds => lenB (ds.getD 2 default).I.toNat (ds.getD 1 default).L (mkSr (ds.getD 3 default) (ds.getD 4 default) (ds.getD 5 default))) fun ds rr h => ?_
  unfold G1073_9 at h
  split at h
  · rename_i a r m o k q
    obtain ⟨hp, h⟩ := need_some h
    rw [yes_iff] at hp
    have hlt : lenB m.I.toNat r.L (mkSr o k q) < 9223372036854775808 := by
      by_cases hk : (mkSr o k q).k = 0
      · rw [(halt_zeroB hk).2]; omega
      · exact (halt_stepB hp hk).2.2.2.2
    refine ⟨by rw [fuelC]; exact Nat.lt_trans hlt (by omega), ?_⟩
    rw [show roundTK C (mkTabR sp1073 lp1073 sw1073 rg1073) 73 (loopOf C.P 73 9) 0 l1073_9 [a, r, m, o, k, q] = _ from t1073_9 a r m o k q]
    simp only [Int.toNat_natCast, rg_def]
    by_cases hk : k.I.toNat = 0
    · rw [(halt_zeroB (m := m.I.toNat) (r := r.L) (s := mkSr o k q) hk).1] at h
      refine rd_dec (by omega) (rd_neg (by rw [hk]; simp) (rd_out h))
    · obtain ⟨hN, h1, h2, h3, -⟩ := halt_stepB hp hk
      obtain ⟨n1, n2, n3, n4, n5, n6, n7, n8⟩ := hN
      rw [h2] at h
      generalize hS : mkSr o k q = S at *
      have hSk : S.k = k.I.toNat := by rw [← hS]; rfl
      have hSq : S.q = q.L := by rw [← hS]; rfl
      have hSo : S.o = o.L := by rw [← hS]; rfl
      have hV : ix ((popR q.L k.I.toNat).getD (k.I.toNat - 1) []) 0 = takeV S := by unfold takeV; rw [hSk, hSq]
      have hT : ix ((popR q.L k.I.toNat).getD (k.I.toNat - 1) []) 1 = takeT S := by unfold takeT; rw [hSk, hSq]
      simp only [hV, hT]
      rw [hSq, hSk] at n1
      rw [hSk] at n2
      rw [hSo] at n3
      have hlt1 : (List.take k.I.toNat q.L).length = k.I.toNat := by rw [List.length_take]; omega
      refine rd_dec n1 (rd_pos (by rw [hlt1]; omega) (rd_yes ⟨by omega, n1, by omega⟩ (rd_dec n4 (rd_dec (by omega) (rd_if (fun c => ?_) fun c => ?_)))))
      · have hst : stepG (nxB r.L) S = mkSr (D.l o.L) (D.i ((k.I.toNat - 1 : Nat) : Int)) (D.l (popR q.L k.I.toNat)) := by
          unfold stepG
          rw [if_pos (by rw [hSo]; exact c)]
          unfold popS
          rw [hSo, hSk, hSq]
          rfl
        refine rd_again ((need_yes (by rw [← hst]; exact h1)).trans ?_) (by
          show lenB m.I.toNat r.L (mkSr (D.l o.L) (D.i ((k.I.toNat - 1 : Nat) : Int)) (D.l (popR q.L k.I.toNat))) < lenB m.I.toNat r.L (mkSr o k q)
          rw [← hst, hS]; exact h3)
        rw [← hst]
        exact h
      · have hst : stepG (nxB r.L) S = relF (backF r.L (takeV S) (takeT S) 0 r.L.length) (mkSr (D.l o.L) (D.i ((k.I.toNat - 1 : Nat) : Int)) (D.l (popR q.L k.I.toNat))) := by
          unfold stepG
          rw [if_neg (by rw [hSo]; exact c)]
          unfold popS nxB
          rw [hSo, hSk, hSq]
          rfl
        have hnl := back_len (r := r.L) (v := takeV S) (t := takeT S) r.L.length 0
        refine rd_yes ⟨n6, n5⟩ (rd_yes ⟨n3, by rw [len_pop]; omega, by omega, fun e he => ?_⟩ ?_)
        · obtain ⟨j, -, hj, -, e1, -⟩ := back_mem _ _ _ he
          rw [e1]
          exact n8 j (by omega)
        · have hmk : ∀ s : Sr, mkSr (D.l s.o) (D.i (s.k : Int)) (D.l s.q) = s := fun s => by simp only [mkSr, I_i, L_l, Int.toNat_natCast]
          rw [← hst]
          refine rd_again ((need_yes (by simp only [I_i, L_l, Int.toNat_natCast, hmk]; exact h1)).trans ?_) (by
            show lenB m.I.toNat r.L (mkSr (D.l (stepG (nxB r.L) S).o) (D.i ((stepG (nxB r.L) S).k : Int)) (D.l (stepG (nxB r.L) S).q)) < lenB m.I.toNat r.L (mkSr o k q)
            rw [hmk, hS]; exact h3)
          simp only [I_i, L_l, Int.toNat_natCast, hmk]
          exact h
  · cases h
theorem ok1073 (n : Nat) : FnOK C (n + 5) 73 (mkF s1073 G1073) := by
  have hby : Try.prog.types[3].bytes = 8 := by kernel_rfl
  refine fn_ofR hC (sp := sp1073) (lp := lp1073) (sw := sw1073) (rg := rg1073) ⟨ok123 (n + 3), trivial⟩ ⟨ok93 (n + 1), ok102 (n + 3), ok127 n, trivial⟩ (by kernel_rfl) [3, 9] [] (by kernel_rfl) (by kernel_rfl) (by kernel_rfl) rfl (fun k hk L hL => by
    simp at hk; rcases hk with rfl | rfl <;> cases hL
    · exact ok1073_3 n
    · exact ok1073_9 n) (fun k hk => by cases hk) fun ds r h => ?_
  unfold G1073 at h
  split at h
  · rename_i m v t a r'
    obtain ⟨hp, h⟩ := need_some h
    rw [yes_iff] at hp
    obtain ⟨h0, h1, h2, h3, h4⟩ := hp
    refine (congrArg T.run (t1073 m v t a r')).trans ?_
    have hz : (0 : Int).toNat = 0 := rfl
    simp only [List.length_replicate, Int.toNat_natCast, hz, Nat.sub_zero, fill_all, upd1, rs_def]
    have hm : (m.I.toNat : Int) = m.I := by omega
    refine go_need (by rw [hby]; simp; omega) (go_yes ⟨trivial, Nat.le_refl _, by omega, by omega, by omega⟩ (go_dec (by omega) (go_need (by simp; omega) (go_yes h4 ?_))))
    rw [hm]
    exact h
  · cases h
theorem runB_len {N : Int → Int → List (List D)} : ∀ (f : Nat) (s : Sr), (runG (stepG N) f s).length = s.o.length
  | 0, _ => rfl
  | f + 1, s => by
    simp only [runG]
    rw [runB_len f]
    unfold stepG
    split
    · rfl
    · exact rel_len _ _
theorem resB_len {m : Nat} {r : List (List D)} {s : Sr} : (resB m r s).length = s.o.length := runB_len _ _
theorem neg_rg : ∀ (k i : Nat) (l : List (List D)), i + k ≤ l.length → (negF i k l).length = l.length ∧ ∀ u, rg (negF i k l) u = if i ≤ u ∧ u < i + k then -(rg l u) else rg l u
  | 0, i, l, _ => ⟨rfl, fun u => by simp only [negF]; rw [if_neg (by omega)]⟩
  | k + 1, i, l, h => by
    obtain ⟨h1, h2⟩ := neg_rg k (i + 1) (rs l i (-(rg l i))) (by rw [len_rs]; omega)
    simp only [negF]
    refine ⟨by rw [h1, len_rs], fun u => ?_⟩
    rw [h2, rg_rs (by omega)]
    by_cases e : u = i
    · subst e
      rw [if_neg (by omega), if_pos rfl, if_pos (by omega)]
    · rw [if_neg e]
      by_cases e2 : i + 1 ≤ u ∧ u < i + 1 + k
      · rw [if_pos e2, if_pos (by omega)]
      · rw [if_neg e2, if_neg (by omega)]
/-- A search backwards ends, with the least times. -/
theorem back_ends {n : Int} {r : List (List D)} {v t : Int} (hN : netB n r = true) (hv : 0 ≤ v ∧ v < n) (ht : -1000000 ≤ t ∧ t ≤ 100000) :
    haltB n.toNat r (startS n v t) ∧ Least (edB r) n.toNat v t (rg (resB n.toNat r (startS n v t))) := by
  obtain ⟨h1, h2, h3⟩ := net_parts hN
  have hE := edB_ok hN
  have hI : INF = 9223372036854775807 := rfl
  have hn : (n.toNat : Int) = n := by omega
  have hB : max t 100000 + 10000 * ((n.toNat : Int) + 1) < INF := by omega
  have hp := pot_start (n := n) (B := max t 100000 + 10000 * ((n.toNat : Int) + 1)) hv (by omega : t < INF) (by omega)
  have hm : (max t 100000 + 10000 * ((n.toNat : Int) + 1) + 1 - t).toNat * n.toNat ≤ 4000000 * 200 := Nat.mul_le_mul (by omega) (by omega)
  obtain ⟨f, f1, f2, f3⟩ := inv_ends (n := n.toNat) hE (nxB_ok r) hB (by omega) (need := needB n.toNat r) (Q := 2000000000) (fun s I hk hQ => by
    have hkq : s.k ≤ 2000000000 := by unfold potN at hQ; omega
    obtain ⟨⟨v1, v2⟩, v3, v4⟩ := I.q _ ((pop_in hk I.kq (takeV s, takeT s)).2 (.inl rfl))
    simp only at v1 v2 v3 v4
    have hfV : rg s.o (takeV s).toNat < INF := by omega
    have hlo := walk_lo hE (I.walk (takeV s).toNat (by omega) hfV)
    refine ⟨I.kq, by omega, by rw [I.len]; exact Nat.le_refl _, ⟨v1, v2⟩, ⟨by omega, by omega⟩, net_okR hN, by omega, fun i hi => ?_⟩
    have := (road_parts (h3 i hi)).1
    omega) 2000000000 (startS n v t) (inv_start hv (by omega)) (by omega) (Nat.le_refl _)
  refine ⟨⟨f, by omega, f2⟩, ?_⟩
  rw [resB_eq f2]
  exact f3
theorem back_okN {n : Int} {r : List (List D)} {v t : Int} (hN : netB n r = true) (hv : 0 ≤ v ∧ v < n) (ht : -1000000 ≤ t ∧ t ≤ 100000) : okN (resB n.toNat r (startS n v t)) := fun u => by
  have hL := (back_ends hN hv ht).2
  have hI : INF = 9223372036854775807 := rfl
  by_cases hu : u < n.toNat
  · have h1 := hL.1 u hu
    by_cases hf : rg (resB n.toNat r (startS n v t)) u < INF
    · have := walk_lo (edB_ok hN) (hL.2.1 u hu hf)
      omega
    · omega
  · rw [rg_ge (by rw [resB_len, len_start]; omega)]
    omega
theorem ok97_3 (n : Nat) : LoopSim C (n + 5) 97 (loopOf C.P 97 3) (mkL l97_3 G97_3) := by
  refine loop_ofK hC (sp := sp97) (lp := lp97) (sw := sw97) ⟨ok1073 n, trivial⟩ ⟨ok102 (n + 4), trivial⟩ 0 [] (by kernel_rfl) rfl (fun k hk => by cases hk) (by kernel_rfl) (fun ds => ((ds.getD 1 default).I - (ds.getD 2 default).I).toNat) fun ds rr h => ?_
  unfold G97_3 at h
  split at h
  · rename_i m k i l
    obtain ⟨hp, h⟩ := need_some h
    rw [yes_iff] at hp
    obtain ⟨h1, h3, hi0, hi1, h4, h5⟩ := hp
    refine ⟨by rw [fuelC]; simp; omega, ?_⟩
    rw [show roundTK C (mkTab sp97 lp97 sw97) 97 (loopOf C.P 97 3) 0 l97_3 [m, k, i, l] = _ from t97_3 m k i l]
    obtain ⟨j, hj⟩ : ∃ j : Nat, i.I = j := ⟨i.I.toNat, by omega⟩
    simp only [hj, h1, Int.toNat_natCast, upd1, rs_def, rg_def] at h hi0 hi1 h4 ⊢
    refine rd_if (fun hlt => ?_) fun hge => ?_
    · have hjr := h5 j
      have hw : IntKind.i64.wrap (0 - rg l.L j) = -(rg l.L j) := by rw [Int.zero_sub]; exact wrap_id (by omega) (by omega)
      have hN' : okN (rs l.L j (-(rg l.L j))) := fun u => by
        rw [rg_rs (by omega)]
        have := h5 u
        split <;> omega
      rw [wrap_succ (by omega), hw]
      rw [show m.I.toNat - j = (m.I.toNat - (j + 1)) + 1 by omega] at h
      simp only [negF] at h
      refine rd_dec (by omega) (rd_dec (by omega) (rd_dec (by omega) (rd_dec (by omega) (rd_again ((need_yes ⟨by simp only [I_i, Int.toNat_natCast], by simp only [I_i, L_l, Int.toNat_natCast, len_rs]; exact h3, by simp only [I_i]; omega, by simp only [I_i]; omega, by simp only [I_i]; omega, hN'⟩).trans ?_) ?_))))
      · simp only [I_i, L_l, Int.toNat_natCast]
        exact h
      · show ((m.I.toNat : Int) - ((j + 1 : Nat) : Int)).toNat < (k.I - i.I).toNat
        rw [hj, h1]; omega
    · rw [show m.I.toNat - j = 0 by omega] at h
      exact rd_out h
  · cases h
theorem ok97 (n : Nat) : FnOK C (n + 6) 97 (mkF s97 G97) := by
  refine fn_ofS hC (sp := sp97) (lp := lp97) (sw := sw97) ⟨ok1073 n, trivial⟩ ⟨ok102 (n + 4), trivial⟩ (by kernel_rfl) [3] (by kernel_rfl) (by kernel_rfl) (fun k hk L hL => by
    simp at hk; subst hk; cases hL; exact ok97_3 n) fun ds r h => ?_
  unfold G97 at h
  split at h
  · rename_i m r' v t
    obtain ⟨hp, h⟩ := need_some h
    rw [yes_iff] at hp
    obtain ⟨hN, hv, ht⟩ := hp
    obtain ⟨p1, p2, p3⟩ := net_parts hN
    have hw : IntKind.i64.wrap (0 - t.I) = -t.I := by rw [Int.zero_sub]; exact wrap_id (by omega) (by omega)
    refine (congrArg T.run (t97 m r' v t)).trans ?_
    rw [hw]
    have hz : (0 : Int).toNat = 0 := rfl
    simp only [Int.toNat_natCast, hz, Nat.sub_zero]
    have hm : (m.I.toNat : Int) = m.I := by omega
    refine go_yes ⟨by omega, by omega, by omega, by omega, (back_ends hN hv (by omega)).1⟩ (go_yes ⟨trivial, by rw [resB_len, len_start]; exact Nat.le_refl _, by omega, by omega, by omega, back_okN hN hv (by omega)⟩ ?_)
    rw [hm]
    exact h
  · cases h
end Go.Proofs.Ytgmefblkmidglaa
