/-
  What the claim rescue_more rests on, part 7.
-/
import Derived.Test.YtgmefblkmidglaaZ6
namespace Go.Proofs.Ytgmefblkmidglaa
open Go.Lite
set_option linter.unusedVariables false
noncomputable section
def leavF (l : List (List D)) (c : Int) : Nat → Int → Int
  | 0, s => s
  | k + 1, s => leavF l c k (if s + c > ix (l.getD k []) 0 ∧ s < ix (l.getD k []) 1 then ix (l.getD k []) 0 - c else s)
def leaW (c : List D) (t : Int) : Int := leavF (lx c 3) (ix c 2) (lx c 3).length t
def backF (r : List (List D)) (v t : Int) : Nat → Nat → List (List D)
  | _, 0 => []
  | i, k + 1 => if ix (r.getD i []) 1 = v then [.i (ix (r.getD i []) 0), .i (-(leaW (r.getD i []) (-t - ix (r.getD i []) 2)))] :: backF r v t (i + 1) k else backF r v t (i + 1) k
def nxB (r : List (List D)) : Int → Int → List (List D) := fun v t => backF r v t 0 r.length
def edB (r : List (List D)) : Ed := ⟨r.length, fun j => ix (r.getD j []) 1, fun j => ix (r.getD j []) 0, fun j t => -(leaW (r.getD j []) (-t - ix (r.getD j []) 2))⟩
end
theorem ent_split {l : List (List D)} {c : Int} : ∀ (k i : Nat) (s : Int), entF l c i (k + 1) s = (fun s => if s + c > ix (l.getD (i + k) []) 0 ∧ s < ix (l.getD (i + k) []) 1 then ix (l.getD (i + k) []) 1 else s) (entF l c i k s)
  | 0, i, s => rfl
  | k + 1, i, s => by
    have h := ent_split (l := l) (c := c) k (i + 1) (if s + c > ix (l.getD i []) 0 ∧ s < ix (l.getD i []) 1 then ix (l.getD i []) 1 else s)
    rw [show i + 1 + k = i + (k + 1) by omega] at h
    exact h
theorem ent_leav {l : List (List D)} {c : Int} (h : ∀ j, 0 < j + c → True) : ∀ (k : Nat) (t y : Int), entF l c 0 k t ≤ y ↔ t ≤ leavF l c k y
  | 0, _, _ => Iff.rfl
  | k + 1, t, y => by
    rw [ent_split, Nat.zero_add]
    simp only [leavF]
    rw [← ent_leav h k]
    generalize entF l c 0 k t = s
    split <;> split <;> omega
theorem ent_lea {c : List D} {t y : Int} : entW c t ≤ y ↔ t ≤ leaW c y := ent_leav (fun _ _ => trivial) _ _ _
theorem leav_le {l : List (List D)} {c : Int} : ∀ (k : Nat) (s : Int), leavF l c k s ≤ s
  | 0, _ => Int.le_refl _
  | k + 1, s => by
    simp only [leavF]
    refine Int.le_trans (leav_le k _) ?_
    split <;> omega
theorem leav_ge {l : List (List D)} {c : Int} (h : ∀ j, 0 ≤ ix (l.getD j []) 0) : ∀ (k : Nat) (s : Int), min s (-c) ≤ leavF l c k s
  | 0, s => by simp only [leavF]; omega
  | k + 1, s => by
    simp only [leavF]
    have := h k
    refine Int.le_trans ?_ (leav_ge h k _)
    split <;> omega
theorem leav_mono {l : List (List D)} {c : Int} : ∀ (k : Nat) (s s' : Int), s ≤ s' → leavF l c k s ≤ leavF l c k s'
  | 0, _, _, h => h
  | k + 1, s, s', h => by
    simp only [leavF]
    refine leav_mono k _ _ ?_
    split <;> split <;> omega
theorem leaW_parts {n : Int} {c : List D} (h : roadB n c = true) : (∀ t, leaW c t ≤ t) ∧ (∀ t, min t (-10000) ≤ leaW c t) ∧ ∀ t t', t ≤ t' → leaW c t ≤ leaW c t' := by
  obtain ⟨-, -, h2, -, h3⟩ := road_parts h
  refine ⟨fun t => leav_le _ _, fun t => ?_, fun t t' ht => leav_mono _ _ _ ht⟩
  have := leav_ge (l := lx c 3) (c := ix c 2) (fun j => (cl_at h3 j).1.1) (lx c 3).length t
  unfold leaW
  omega
theorem edB_ok {n : Int} {r : List (List D)} (h : netB n r = true) : (edB r).OK n.toNat 100000 := by
  obtain ⟨h1, h2, h3⟩ := net_parts h
  refine ⟨fun j hj => ?_, fun j hj => ?_, fun j hj t => ?_, fun j hj t t' ht => ?_, fun j hj t => ?_⟩
  · have := (road_parts (h3 j hj)).2.1
    show 0 ≤ ix (r.getD j []) 1 ∧ ix (r.getD j []) 1 < (n.toNat : Int)
    omega
  · have := (road_parts (h3 j hj)).1
    show 0 ≤ ix (r.getD j []) 0 ∧ ix (r.getD j []) 0 < (n.toNat : Int)
    omega
  · have := (road_parts (h3 j hj)).2.2.1
    have := (leaW_parts (h3 j hj)).1 (-t - ix (r.getD j []) 2)
    show t < -(leaW (r.getD j []) (-t - ix (r.getD j []) 2))
    omega
  · have := (leaW_parts (h3 j hj)).2.2 (-t' - ix (r.getD j []) 2) (-t - ix (r.getD j []) 2) (by omega)
    show -(leaW (r.getD j []) (-t - ix (r.getD j []) 2)) ≤ -(leaW (r.getD j []) (-t' - ix (r.getD j []) 2))
    omega
  · have := (road_parts (h3 j hj)).2.2.1
    have := (leaW_parts (h3 j hj)).2.1 (-t - ix (r.getD j []) 2)
    show -(leaW (r.getD j []) (-t - ix (r.getD j []) 2)) ≤ max t 100000 + 10000
    omega
theorem back_mem {r : List (List D)} {v t : Int} : ∀ (k i : Nat), ∀ e ∈ backF r v t i k, ∃ j, i ≤ j ∧ j < i + k ∧ ix (r.getD j []) 1 = v ∧ ix e 0 = ix (r.getD j []) 0 ∧ ix e 1 = -(leaW (r.getD j []) (-t - ix (r.getD j []) 2))
  | 0, _, e, h => by simp [backF] at h
  | k + 1, i, e, h => by
    simp only [backF] at h
    split at h
    · rename_i hv
      rcases List.mem_cons.1 h with rfl | h
      · exact ⟨i, Nat.le_refl _, by omega, hv, rfl, rfl⟩
      · obtain ⟨j, h1, h2, h3⟩ := back_mem k (i + 1) e h
        exact ⟨j, by omega, by omega, h3⟩
    · obtain ⟨j, h1, h2, h3⟩ := back_mem k (i + 1) e h
      exact ⟨j, by omega, by omega, h3⟩
theorem back_of {r : List (List D)} {v t : Int} : ∀ (k i j : Nat), i ≤ j → j < i + k → ix (r.getD j []) 1 = v → ∃ e ∈ backF r v t i k, ix e 0 = ix (r.getD j []) 0 ∧ ix e 1 = -(leaW (r.getD j []) (-t - ix (r.getD j []) 2))
  | 0, i, j, h1, h2, _ => by omega
  | k + 1, i, j, h1, h2, hv => by
    simp only [backF]
    by_cases e : j = i
    · subst e
      rw [if_pos hv]
      exact ⟨_, List.mem_cons_self, rfl, rfl⟩
    · obtain ⟨x, hx, h3⟩ := back_of k (i + 1) j (by omega) (by omega) hv
      refine ⟨x, ?_, h3⟩
      split
      · exact List.mem_cons_of_mem _ hx
      · exact hx
theorem nxB_ok (r : List (List D)) : Yields (edB r) (nxB r) := fun v t => by
  refine ⟨fun e he => ?_, fun j hj hv => back_of _ _ j (Nat.zero_le _) (by show j < 0 + r.length; have : j < r.length := hj; omega) hv⟩
  obtain ⟨j, -, h1, h2, h3, h4⟩ := back_mem _ _ e he
  exact ⟨j, by show j < r.length; omega, h2, h3, h4⟩
theorem walk_back {r : List (List D)} {v t w s : Int} (h : Walk (edR r) v t w s) : ∀ b, s ≤ b → ∃ x, Walk (edB r) w (-b) v x ∧ x ≤ -t := by
  induction h with
  | here => exact fun b hb => ⟨-b, .here, by omega⟩
  | @step s0 j hw hj ih =>
    intro b hb
    have hb : entW (r.getD j []) s0 + ix (r.getD j []) 2 ≤ b := hb
    obtain ⟨x, h1, h2⟩ := ih (leaW (r.getD j []) (b - ix (r.getD j []) 2)) (ent_lea.1 (by omega))
    refine ⟨x, walk_trans (.step (E := edB r) (j := j) .here hj) ?_, h2⟩
    have e : (edB r).fn j (-b) = -(leaW (r.getD j []) (b - ix (r.getD j []) 2)) := by
      show -(leaW (r.getD j []) (- -b - ix (r.getD j []) 2)) = _
      rw [Int.neg_neg]
    rw [e]
    exact h1
theorem walk_fore {r : List (List D)} {w b v x : Int} (h : Walk (edB r) w (-b) v x) : ∀ t, x ≤ -t → ∃ s, Walk (edR r) v t w s ∧ s ≤ b := by
  induction h with
  | here => exact fun t ht => ⟨t, .here, by omega⟩
  | @step x0 j hw hj ih =>
    intro t ht
    have ht : -(leaW (r.getD j []) (-x0 - ix (r.getD j []) 2)) ≤ -t := ht
    have h0 : entW (r.getD j []) t ≤ -x0 - ix (r.getD j []) 2 := ent_lea.2 (by omega)
    obtain ⟨s, h1, h2⟩ := ih (entW (r.getD j []) t + ix (r.getD j []) 2) (by omega)
    exact ⟨s, walk_trans (.step (E := edR r) (j := j) .here hj) h1, h2⟩
theorem least_back {r : List (List D)} {n : Nat} {v t w b : Int} {d d' : Nat → Int} (hv : 0 ≤ v ∧ v < n) (hw : 0 ≤ w ∧ w < n) (hb : b < INF) (ht : -INF < t) (hd : Least (edR r) n v t d) (hd' : Least (edB r) n w (-b) d') : d w.toNat ≤ b ↔ t ≤ -(d' v.toNat) := by
  constructor
  · intro h
    have h1 := hd.2.1 w.toNat (by omega) (by omega)
    rw [show ((w.toNat : Nat) : Int) = w by omega] at h1
    obtain ⟨x, h2, h3⟩ := walk_back h1 b h
    have := hd'.2.2 _ _ h2
    omega
  · intro h
    have h1 := hd'.2.1 v.toNat (by omega) (by omega)
    rw [show ((v.toNat : Nat) : Int) = v by omega] at h1
    obtain ⟨s, h2, h3⟩ := walk_fore h1 t (by omega)
    have := hd.2.2 _ _ h2
    omega
theorem walk_sooner {E : Ed} {n : Nat} {H : Int} (hE : E.OK n H) {v t t' w s : Int} (h : Walk E v t' w s) : t ≤ t' → ∃ s', Walk E v t w s' ∧ s' ≤ s := by
  intro ht
  induction h with
  | here => exact ⟨t, .here, ht⟩
  | @step s0 j hw hj ih =>
    obtain ⟨s', h1, h2⟩ := ih
    exact ⟨_, .step h1 hj, hE.mono j hj _ _ h2⟩
end Go.Proofs.Ytgmefblkmidglaa
namespace Go.Proofs.Ytgmefblkmidglaa
open Go.Lite
noncomputable section
def backY (l : List (List D)) : Nat → List (List D)
  | 0 => []
  | k + 1 => [.i k, .i (ix (l.getD k []) 0), .i (ix (l.getD k []) 1)] :: backY l k
def leavG (c : Int) : List (List D) → Int → Int
  | [], s => s
  | e :: es, s => leavG c es (if s + c > ix e 1 ∧ s < ix e 2 then ix e 1 - c else s)
def okY (L : List (List D)) : Prop := ∀ e ∈ L, (-1099511627776 ≤ ix e 1 ∧ ix e 1 ≤ 1099511627776) ∧ -1099511627776 ≤ ix e 2 ∧ ix e 2 ≤ 1099511627776
def okU (s : Int) : Prop := -576460752303423488 ≤ s ∧ s ≤ 576460752303423488
def needB (n : Nat) (r : List (List D)) (s : Sr) : Prop := s.k ≤ s.q.length ∧ s.k < 274877906944 ∧ n ≤ s.o.length ∧ (0 ≤ takeV s ∧ takeV s < n) ∧ okU (takeT s) ∧ okR r ∧ r.length < 274877906944 ∧ ∀ i, i < r.length → 0 ≤ ix (r.getD i []) 0 ∧ ix (r.getD i []) 0 < n
def endsB (n : Nat) (r : List (List D)) (f : Nat) (s : Sr) : Prop := endsG (needB n r) (stepG (nxB r)) f s
def lenB (n : Nat) (r : List (List D)) (s : Sr) : Nat := Classical.epsilon fun f => endsB n r f s
def resB (n : Nat) (r : List (List D)) (s : Sr) : List (List D) := runG (stepG (nxB r)) (lenB n r s) s
def haltB (n : Nat) (r : List (List D)) (s : Sr) : Prop := ∃ f, f < 9223372036854775808 ∧ endsB n r f s
def negF : Nat → Nat → List (List D) → List (List D)
  | _, 0, l => l
  | i, k + 1, l => negF (i + 1) k (rs l i (-(rg l i)))
def okN (l : List (List D)) : Prop := ∀ u, -9223372036854775807 ≤ rg l u ∧ rg l u ≤ 9223372036854775807
def G106 (ds : List D) : T (List (List D)) := match ds with
  | [l] => .need (yes (l.L.length < big)) (.leaf (backY l.L l.L.length))
  | _ => .fail
def G106_1 (q : Nat) (ds : List D) : T (Ex × List D) := match ds with
  | [g, i, l] => .need (yes (l.L.length < big ∧ -1 ≤ i.I ∧ i.I < l.L.length ∧ g.L.length ≤ q))
      (.ite (decide (q < g.L.length + (i.I + 1).toNat)) (.leaf (.ret, [.l (g.L ++ (backY l.L (i.I + 1).toNat).take (q + 1 - g.L.length)), .l l.L])) (.leaf (.exit 0, [.l (g.L ++ backY l.L (i.I + 1).toNat), .l l.L])))
  | _ => .fail
def G105 (ds : List D) : T (List D) := match ds with
  | [l] => .leaf [.l l.L]
  | _ => .fail
def G104 (ds : List D) : T (List D) := match ds with
  | [_, _, c, l, s] => .need (yes (okT c.I ∧ okS s.I ∧ okC l.L)) (.leaf [.i (leavF l.L c.I l.L.length s.I)])
  | _ => .fail
def G104_3 (L : List (List D)) (ds : List D) : T (Ex × List D) := match ds with
  | [z, a, b, c, l, s] => .need (yes (okT c.I ∧ okS s.I ∧ okY L)) (.leaf (.normal, [.i z.I, .i a.I, .i b.I, .i c.I, .l l.L, .i (leavG c.I L s.I)]))
  | _ => .fail
def G103 (ds : List D) : T (List (List D)) := match ds with
  | [_, r, v, t] => .need (yes (okR r.L ∧ okU t.I)) (.leaf (backF r.L v.I t.I 0 r.L.length))
  | _ => .fail
def G103_1 (q : Nat) (ds : List D) : T (Ex × List D) := match ds with
  | [g, r, m, i, v, t] => .need (yes (okR r.L ∧ okU t.I ∧ m.I = r.L.length ∧ 0 ≤ i.I ∧ i.I ≤ r.L.length ∧ g.L.length ≤ q))
      (.ite (decide (q < g.L.length + (backF r.L v.I t.I i.I.toNat (r.L.length - i.I.toNat)).length))
        (.leaf (.ret, [.l (g.L ++ (backF r.L v.I t.I i.I.toNat (r.L.length - i.I.toNat)).take (q + 1 - g.L.length)), .i v.I, .i t.I]))
        (.leaf (.exit 0, [.l (g.L ++ backF r.L v.I t.I i.I.toNat (r.L.length - i.I.toNat)), .i v.I, .i t.I])))
  | _ => .fail
def G102 (ds : List D) : T (List D) := match ds with
  | [v, t, n, r] => .leaf [.i n.I, .l r.L, .i v.I, .i t.I]
  | _ => .fail
def G1073_3 : List D → T (Ex × List D) := G73_3
def G1073_9 (ds : List D) : T (Ex × List D) := match ds with
  | [_, r, n, o, k, q] => .need (yes (haltB n.I.toNat r.L (mkSr o k q))) (.leaf (.exit 2, [.i (n.I.toNat : Int), .l (resB n.I.toNat r.L (mkSr o k q))]))
  | _ => .fail
def G1073_14 : List (List D) → List D → T (Ex × List D) := G73_14
def G1073 (ds : List D) : T (List D) := match ds with
  | [n, v, t, _, r] => .need (yes (0 ≤ n.I ∧ n.I < 1099511627776 ∧ 0 ≤ v.I ∧ v.I < n.I ∧ haltB n.I.toNat r.L (startS n.I v.I t.I))) (.leaf [.i n.I, .l (resB n.I.toNat r.L (startS n.I v.I t.I))])
  | _ => .fail
def latF (n : Int) (r : List (List D)) (v t : Int) : List (List D) := negF 0 n.toNat (resB n.toNat r (startS n v (-t)))
def G97_3 (ds : List D) : T (Ex × List D) := match ds with
  | [n, m, i, l] => .need (yes (m.I = (n.I.toNat : Int) ∧ n.I.toNat ≤ l.L.length ∧ 0 ≤ i.I ∧ i.I ≤ m.I ∧ m.I < 1099511627776 ∧ okN l.L)) (.leaf (.exit 0, [.i (n.I.toNat : Int), .l (negF i.I.toNat (n.I.toNat - i.I.toNat) l.L)]))
  | _ => .fail
def G97 (ds : List D) : T (List D) := match ds with
  | [n, r, v, t] => .need (yes (netB n.I r.L = true ∧ (0 ≤ v.I ∧ v.I < n.I) ∧ 0 ≤ t.I ∧ t.I ≤ 1000000)) (.leaf [.i n.I, .l (latF n.I r.L v.I t.I)])
  | _ => .fail
end
end Go.Proofs.Ytgmefblkmidglaa
namespace Go.Proofs.Ytgmefblkmidglaa
open Go.Lite
noncomputable section
def andI (a b : Int) : Int := IntKind.i64.wrap (BitVec.ofInt IntKind.i64.bits a &&& BitVec.ofInt IntKind.i64.bits b).toNat
def ableB (x z : List D) : Bool := andI (ix x 1) (ix z 1) == ix z 1
def covB (n : Int) (r : List (List D)) (x z : List D) (t : Int) : Bool :=
  decide (ix x 2 ≤ t ∧ t < ix x 3) && ableB x z && decide (0 ≤ docA n r (ix x 0) t (ix z 0) ∧ docA n r (ix x 0) t (ix z 0) ≤ t + ix z 2)
def anyC (n : Int) (r v : List (List D)) (z : List D) (t : Int) (k m : Nat) : Bool := !allFrom (fun j => !covB n r (v.getD j []) z t) k m
def setTo (g : List (List D)) (x : Int) : List (List D) := g.set (g.length - 1) [(g.getD (g.length - 1) []).getD 0 default, (g.getD (g.length - 1) []).getD 1 default, .i x]
def gapT (i t : Int) (c : Bool) (s : List (List D) × Bool) : List (List D) × Bool := if c then (s.1, false) else if s.2 then (setTo s.1 (t + 1), true) else (s.1 ++ [[.i i, .i t, .i (t + 1)]], true)
def refT (p : Int → Bool) (i : Int) : Nat → Int → List (List D) × Bool → List (List D) × Bool
  | 0, _, s => s
  | k + 1, t, s => refT p i k (t + 1) (gapT i t (p t) s)
def secsF (n : Int) (r v : List (List D)) (z : List D) (t : Int) : Bool := anyC n r v z t 0 v.length
def refZ (n : Int) (r v z : List (List D)) (h : Int) : Nat → Nat → List (List D) → List (List D)
  | _, 0, g => g
  | i, k + 1, g => refZ n r v z h (i + 1) k (refT (secsF n r v (z.getD i [])) i h.toNat 0 (g, false)).1
def okG (n : Int) (r v z : List (List D)) (h : Int) : Prop := netB n r = true ∧ vehs n v = true ∧ zons n z = true ∧ v.length ≤ 1000 ∧ z.length ≤ 100 ∧ 0 ≤ h ∧ h ≤ 100000
def mn (a b : Int) : Int := if b < a then b else a
def mx (a b : Int) : Int := if b > a then b else a
structure Pv where
  c : Bool
  to : Int
  nx : Int
def latU (n : Int) (r : List (List D)) (z : List D) (t u : Int) : Int := rg (latF n r (ix z 0) (t + ix z 2)) u.toNat
def stV (n : Int) (r : List (List D)) (z : List D) (t : Int) (x : List D) (s : Pv) : Pv :=
  if ableB x z = false ∨ ix x 3 ≤ t then s
  else if t < ix x 2 then ⟨s.c, s.to, mn s.nx (ix x 2)⟩
  else if t ≤ latU n r z t (ix x 0) then ⟨true, mx s.to (mn (latU n r z t (ix x 0) + 1) (ix x 3)), s.nx⟩
  else if 0 ≤ bestF n r (ix x 0) t (ix z 0) then ⟨s.c, s.to, mn s.nx (mx (t + 1) (bestF n r (ix x 0) t (ix z 0) - ix z 2))⟩ else s
def runV (n : Int) (r v : List (List D)) (z : List D) (t : Int) : Nat → Nat → Pv → Pv
  | _, 0, s => s
  | i, k + 1, s => runV n r v z t (i + 1) k (stV n r z t (v.getD i []) s)
def pvAt (n : Int) (r v : List (List D)) (z : List D) (h t : Int) : Pv := runV n r v z t 0 v.length ⟨false, t, h⟩
def toP (n : Int) (r v : List (List D)) (z : List D) (h t : Int) : Int := mn (if (pvAt n r v z h t).c then (pvAt n r v z h t).to else mx (t + 1) (pvAt n r v z h t).nx) h
def pieceL (n : Int) (r v : List (List D)) (z : List D) (h : Int) : Nat → Int → List (List D)
  | 0, _ => []
  | f + 1, t => if t < h then [.i t, .i (toP n r v z h t), .b (pvAt n r v z h t).c] :: pieceL n r v z h f (toP n r v z h t) else []
def okP (n : Int) (r v : List (List D)) (z : List D) (h : Int) : Prop := netB n r = true ∧ vehs n v = true ∧ zonB n z = true ∧ v.length ≤ 1000 ∧ 0 ≤ h ∧ h ≤ 100000
def G96 (ds : List D) : T (List (List D)) := match ds with
  | [h, n, r, a, b, c, v] => .need (yes (okP n.I r.L v.L (mk3 a b c) h.I)) (.leaf (pieceL n.I r.L v.L (mk3 a b c) h.I h.I.toNat 0))
  | _ => .fail
def G96_1 (q : Nat) (ds : List D) : T (Ex × List D) := match ds with
  | [g, t, h, n, r, a, b, c, v] => .need (yes (okP n.I r.L v.L (mk3 a b c) h.I ∧ 0 ≤ t.I ∧ t.I ≤ h.I ∧ g.L.length ≤ q))
      (.ite (decide (q < g.L.length + (pieceL n.I r.L v.L (mk3 a b c) h.I (h.I - t.I).toNat t.I).length))
        (.leaf (.ret, [.l (g.L ++ (pieceL n.I r.L v.L (mk3 a b c) h.I (h.I - t.I).toNat t.I).take (q + 1 - g.L.length)), .i h.I, .i n.I, .l r.L, .i a.I, .i b.I, .i c.I, .l v.L]))
        (.leaf (.exit 0, [.l (g.L ++ pieceL n.I r.L v.L (mk3 a b c) h.I (h.I - t.I).toNat t.I), .i h.I, .i n.I, .l r.L, .i a.I, .i b.I, .i c.I, .l v.L])))
  | _ => .fail
def pvOf (c to nx : D) : Pv := ⟨c.B, to.I, nx.I⟩
def okPv (t h : Int) (s : Pv) : Prop := (s.c = true → t + 1 ≤ s.to) ∧ (t ≤ s.to ∧ s.to ≤ 100000) ∧ 0 ≤ s.nx ∧ s.nx ≤ h
def G96_6 (_ : Nat) (ds : List D) : T (Ex × List D) := match ds with
  | [g, t, m, nx, v', q, i, h, n, r, a, b, c, v, l, pf, pt, pc] => .need (yes (okP n.I r.L v.L (mk3 a b c) h.I ∧ (0 ≤ t.I ∧ t.I < h.I) ∧ l.L = latF n.I r.L a.I (t.I + c.I) ∧ m.I = n.I ∧ v'.L = v.L ∧ q.I = v.L.length ∧ (0 ≤ i.I ∧ i.I ≤ v.L.length) ∧ okPv t.I h.I (pvOf pc pt nx)))
      (.leaf (.exit 2, [.l g.L, .i t.I, .i (runV n.I r.L v.L (mk3 a b c) t.I i.I.toNat (v.L.length - i.I.toNat) (pvOf pc pt nx)).nx, .i h.I, .i n.I, .l r.L, .i a.I, .i b.I, .i c.I, .l v.L, .i pf.I, .i (runV n.I r.L v.L (mk3 a b c) t.I i.I.toNat (v.L.length - i.I.toNat) (pvOf pc pt nx)).to, .b (runV n.I r.L v.L (mk3 a b c) t.I i.I.toNat (v.L.length - i.I.toNat) (pvOf pc pt nx)).c]))
  | _ => .fail
def G81 (ds : List D) : T (List D) := match ds with
  | [n, r, v, a, b, c, h] => .leaf [.i h.I, .i n.I, .l r.L, .i a.I, .i b.I, .i c.I, .l v.L]
  | _ => .fail
def gapP (i : Int) (e : List D) (s : List (List D) × Bool) : List (List D) × Bool := if bx e 2 then (s.1, false) else if s.2 then (setTo s.1 (ix e 1), true) else (s.1 ++ [[.i i, .i (ix e 0), .i (ix e 1)]], true)
def gapsF (i : Int) : List (List D) → List (List D) × Bool → List (List D) × Bool
  | [], s => s
  | e :: es, s => gapsF i es (gapP i e s)
def G53_10 (L : List (List D)) (ds : List D) : T (Ex × List D) := match ds with
  | [j, v, h, z, q, i, n, r, i', o] => .need (yes (j.I = 0 ∧ o.B = false ∧ L.length ≤ 1000000))
      (.ite (gapsF i'.I L ([], false)).1.isEmpty (.leaf (.normal, [.i 0, .l v.L, .i h.I, .l z.L, .i q.I, .i i.I, .i n.I, .l r.L, .i i'.I, .b false]))
        (.leaf (.normal, [.i 1, .l v.L, .i h.I, .l z.L, .i q.I, .i i.I, .i n.I, .l r.L, .i (gapsF i'.I L ([], false)).1.length, .i i'.I, .b (gapsF i'.I L ([], false)).2, .l (gapsF i'.I L ([], false)).1])))
  | [j, v, h, z, q, i, n, r, m, i', o, g] => .need (yes (j.I = 1 ∧ m.I = g.L.length ∧ 0 < g.L.length ∧ L.length ≤ 1000000 ∧ m.I + L.length ≤ 1000000000))
      (.leaf (.normal, [.i 1, .l v.L, .i h.I, .l z.L, .i q.I, .i i.I, .i n.I, .l r.L, .i (gapsF i'.I L (g.L, o.B)).1.length, .i i'.I, .b (gapsF i'.I L (g.L, o.B)).2, .l (gapsF i'.I L (g.L, o.B)).1]))
  | _ => .fail
def gapsZ (n : Int) (r v z : List (List D)) (h : Int) : Nat → Nat → List (List D) → List (List D)
  | _, 0, g => g
  | i, k + 1, g => gapsZ n r v z h (i + 1) k (gapsF i (pieceL n r v (mk3 (.i (ix (z.getD i []) 0)) (.i (ix (z.getD i []) 1)) (.i (ix (z.getD i []) 2))) h h.toNat 0) (g, false)).1
def G53_3 (ds : List D) : T (Ex × List D) := match ds with
  | [j, v, h, z, q, i, n, r] => .need (yes (j.I = 0 ∧ okG n.I r.L v.L z.L h.I ∧ q.I = z.L.length ∧ 0 ≤ i.I ∧ i.I ≤ z.L.length))
      (.ite (gapsZ n.I r.L v.L z.L h.I i.I.toNat (z.L.length - i.I.toNat) []).isEmpty (.leaf (.exit 0, [.i 0])) (.leaf (.exit 0, [.i 1, .i (gapsZ n.I r.L v.L z.L h.I i.I.toNat (z.L.length - i.I.toNat) []).length, .l (gapsZ n.I r.L v.L z.L h.I i.I.toNat (z.L.length - i.I.toNat) [])])))
  | [j, v, h, z, q, i, n, r, m, g] => .need (yes (j.I = 1 ∧ okG n.I r.L v.L z.L h.I ∧ q.I = z.L.length ∧ (0 ≤ i.I ∧ i.I ≤ z.L.length) ∧ m.I = g.L.length ∧ 0 < g.L.length ∧ m.I ≤ 100000 * i.I))
      (.leaf (.exit 0, [.i 1, .i (gapsZ n.I r.L v.L z.L h.I i.I.toNat (z.L.length - i.I.toNat) g.L).length, .l (gapsZ n.I r.L v.L z.L h.I i.I.toNat (z.L.length - i.I.toNat) g.L)]))
  | _ => .fail
def gapsA (n : Int) (r v z : List (List D)) (h : Int) : List (List D) := gapsZ n r v z h 0 z.length []
def G53 (ds : List D) : T (List D) := match ds with
  | [n, r, v, z, h] => .need (yes (okG n.I r.L v.L z.L h.I)) (.ite (gapsA n.I r.L v.L z.L h.I).isEmpty (.leaf [.i 0]) (.leaf [.i 1, .i (gapsA n.I r.L v.L z.L h.I).length, .l (gapsA n.I r.L v.L z.L h.I)]))
  | _ => .fail
def G27 (ds : List D) : T (List D) := match ds with
  | [n, r, v, z, h] => .ite (coverB n.I r.L v.L 60 z.L h.I) (.ite (gapsA n.I r.L v.L z.L h.I).isEmpty (.leaf [.i 0, .i 0]) (.leaf [.i 1, .i (gapsA n.I r.L v.L z.L h.I).length, .i 0, .l (gapsA n.I r.L v.L z.L h.I)])) (.leaf [.i 0, .i 2])
  | _ => .fail
end
end Go.Proofs.Ytgmefblkmidglaa
namespace Go.Proofs.Ytgmefblkmidglaa
open Go.Lite
noncomputable def sp106 : SpL := []
noncomputable def lp106 (q : Nat) : LpL := [(1, mkLY 1 l106_1 (G106_1 q))]
noncomputable def sw106 : SwL := []
noncomputable def tab106 (q : Nat) : Tab := mkTabY sp106 (lp106 q) sw106 y106 q
noncomputable def sp105 : SpL := []
noncomputable def lp105 : LpL := []
noncomputable def sw105 : SwL := []
noncomputable def tab105 : Tab := mkTab sp105 lp105 sw105
noncomputable def it104_3 : ItL := [(106, mkFY s106 G106)]
noncomputable def sp104 : SpL := []
noncomputable def lp104 : LpL := []
noncomputable def sw104 : SwL := [(105, mkFW s105 G105)]
noncomputable def rg104 : LpL := [(3, rangeS 0 [2, 3, 4, 9] (rangeOf C.P 104 3).1 it104_3 h104_3 G104_3)]
noncomputable def tab104 : Tab := mkTabR sp104 lp104 sw104 rg104
noncomputable def sp103 : SpL := [(104, mkF s104 G104)]
noncomputable def lp103 (q : Nat) : LpL := [(1, mkLY 2 l103_1 (G103_1 q))]
noncomputable def sw103 : SwL := []
noncomputable def tab103 (q : Nat) : Tab := mkTabY sp103 (lp103 q) sw103 y103 q
noncomputable def sp102 : SpL := []
noncomputable def lp102 : LpL := []
noncomputable def sw102 : SwL := []
noncomputable def tab102 : Tab := mkTab sp102 lp102 sw102
noncomputable def it1073_14 : ItL := [(103, mkFY s103 G103)]
noncomputable def sp1073 : SpL := [(123, mkF s123 G123)]
noncomputable def lp1073 : LpL := [(3, mkL l1073_3 G1073_3), (9, mkL l1073_9 G1073_9)]
noncomputable def sw1073 : SwL := [(93, mkFW s93 G93), (102, mkFW s102 G102), (127, mkFW s127 G127)]
noncomputable def rg1073 : LpL := [(14, rangeS 0 [2, 6, 7, 9, 51] (rangeOf C.P 73 14).1 it1073_14 h1073_14 G1073_14)]
noncomputable def tab1073 : Tab := mkTabR sp1073 lp1073 sw1073 rg1073
noncomputable def sp97 : SpL := [(73, mkF s1073 G1073)]
noncomputable def lp97 : LpL := [(3, mkL l97_3 G97_3)]
noncomputable def sw97 : SwL := [(102, mkFW s102 G102)]
noncomputable def tab97 : Tab := mkTab sp97 lp97 sw97
end Go.Proofs.Ytgmefblkmidglaa
namespace Go.Proofs.Ytgmefblkmidglaa
open Go.Lite
noncomputable def sp96 : SpL := [(97, mkF s97 G97), (46, mkF s46 G46)]
noncomputable def lp96 (q : Nat) : LpL := [(1, mkLY 4 l96_1 (G96_1 q)), (6, mkLY 4 l96_6 (G96_6 q))]
noncomputable def sw96 : SwL := []
noncomputable def tab96 (q : Nat) : Tab := mkTabY sp96 (lp96 q) sw96 y96 q
noncomputable def sp81 : SpL := []
noncomputable def lp81 : LpL := []
noncomputable def sw81 : SwL := []
noncomputable def tab81 : Tab := mkTab sp81 lp81 sw81
noncomputable def it53_10 : ItL := [(96, mkFY s96 G96)]
noncomputable def sp53 : SpL := []
noncomputable def lp53 : LpL := [(3, mkL l53_3 G53_3)]
noncomputable def sw53 : SwL := [(81, mkFW s81 G81)]
noncomputable def rg53 : LpL := [(10, rangeS 0 [1, 3, 4, 8, 9, 10, 12, 14, 15, 16, 25] (rangeOf C.P 53 10).1 it53_10 h53_10 G53_10)]
noncomputable def tab53 : Tab := mkTabR sp53 lp53 sw53 rg53
noncomputable def sp27 : SpL := [(52, mkF s52 G52), (53, mkF s53 G53)]
noncomputable def lp27 : LpL := []
noncomputable def sw27 : SwL := []
noncomputable def tab27 : Tab := mkTab sp27 lp27 sw27
end Go.Proofs.Ytgmefblkmidglaa
namespace Go.Proofs.Ytgmefblkmidglaa
open Go.Lite
set_option linter.unusedVariables false
set_option maxRecDepth 100000
theorem t96 (q : Nat) (a b c d e f g : D) : fnTY C (tab96 q) 96 s96 [a, b, c, d, e, f, g] =
  T.need (yes (okP (D.I b) (D.L c) (D.L g) (mk3 (D.i (D.I d)) (D.i (D.I e)) (D.i (D.I f))) (D.I a) ∧ (0 : Int) ≤ (0 : Int) ∧ (0 : Int) ≤ D.I a ∧ List.length ([] : List (List D)) ≤ q)) (T.ite (decide (q < List.length ([] : List (List D)) + List.length (pieceL (D.I b) (D.L c) (D.L g) (mk3 (D.i (D.I d)) (D.i (D.I e)) (D.i (D.I f))) (D.I a) (Int.toNat (D.I a - (0 : Int))) (0 : Int)))) (T.leaf ([] ++ List.take (q + 1 - List.length ([] : List (List D))) (pieceL (D.I b) (D.L c) (D.L g) (mk3 (D.i (D.I d)) (D.i (D.I e)) (D.i (D.I f))) (D.I a) (Int.toNat (D.I a - (0 : Int))) (0 : Int)))) (T.leaf ([] ++ pieceL (D.I b) (D.L c) (D.L g) (mk3 (D.i (D.I d)) (D.i (D.I e)) (D.i (D.I f))) (D.I a) (Int.toNat (D.I a - (0 : Int))) (0 : Int)))) := by kernel_rfl
theorem t96_1 (q : Nat) (a b c d e f g h i : D) : roundTY C (tab96 q) 96 (loopOf C.P 96 1) 4 l96_1 [a, b, c, d, e, f, g, h, i] =
  T.ite (decide (D.I b < D.I c)) (T.need (yes (netB (D.I d) (D.L e) = true ∧ ((0 : Int) ≤ D.I f ∧ D.I f < D.I d) ∧ (0 : Int) ≤ IntKind.wrap IntKind.i64 (D.I b + D.I h) ∧ IntKind.wrap IntKind.i64 (D.I b + D.I h) ≤ (1000000 : Int))) (T.need (yes (okP (D.I d) (D.L e) (D.L i) (mk3 (D.i (D.I f)) (D.i (D.I g)) (D.i (D.I h))) (D.I c) ∧ ((0 : Int) ≤ D.I b ∧ D.I b < D.I c) ∧ latF (D.I d) (D.L e) (D.I f) (IntKind.wrap IntKind.i64 (D.I b + D.I h)) = latF (D.I d) (D.L e) (D.I f) (D.I b + D.I h) ∧ (↑(Int.toNat (D.I d)) : Int) = D.I d ∧ D.L i = D.L i ∧ (↑(List.length (D.L i)) : Int) = (↑(List.length (D.L i)) : Int) ∧ ((0 : Int) ≤ (0 : Int) ∧ (0 : Int) ≤ (↑(List.length (D.L i)) : Int)) ∧ okPv (D.I b) (D.I c) (pvOf (D.b false) (D.i (D.I b)) (D.i (D.I c))))) (T.ite (!(runV (D.I d) (D.L e) (D.L i) (mk3 (D.i (D.I f)) (D.i (D.I g)) (D.i (D.I h))) (D.I b) (Int.toNat (0 : Int)) (List.length (D.L i) - Int.toNat (0 : Int)) (pvOf (D.b false) (D.i (D.I b)) (D.i (D.I c)))).c) (T.ite (!!List.length (D.L a) == (tab96 q).q) (T.leaf (Rd.out Ex.ret [D.l (D.L a ++ [[D.i (D.I b)] ++ ([D.i (if D.I c < if (runV (D.I d) (D.L e) (D.L i) (mk3 (D.i (D.I f)) (D.i (D.I g)) (D.i (D.I h))) (D.I b) (Int.toNat (0 : Int)) (List.length (D.L i) - Int.toNat (0 : Int)) (pvOf (D.b false) (D.i (D.I b)) (D.i (D.I c)))).nx > IntKind.wrap IntKind.i64 (D.I b + (1 : Int)) then (runV (D.I d) (D.L e) (D.L i) (mk3 (D.i (D.I f)) (D.i (D.I g)) (D.i (D.I h))) (D.I b) (Int.toNat (0 : Int)) (List.length (D.L i) - Int.toNat (0 : Int)) (pvOf (D.b false) (D.i (D.I b)) (D.i (D.I c)))).nx else IntKind.wrap IntKind.i64 (D.I b + (1 : Int)) then D.I c else if (runV (D.I d) (D.L e) (D.L i) (mk3 (D.i (D.I f)) (D.i (D.I g)) (D.i (D.I h))) (D.I b) (Int.toNat (0 : Int)) (List.length (D.L i) - Int.toNat (0 : Int)) (pvOf (D.b false) (D.i (D.I b)) (D.i (D.I c)))).nx > IntKind.wrap IntKind.i64 (D.I b + (1 : Int)) then (runV (D.I d) (D.L e) (D.L i) (mk3 (D.i (D.I f)) (D.i (D.I g)) (D.i (D.I h))) (D.I b) (Int.toNat (0 : Int)) (List.length (D.L i) - Int.toNat (0 : Int)) (pvOf (D.b false) (D.i (D.I b)) (D.i (D.I c)))).nx else IntKind.wrap IntKind.i64 (D.I b + (1 : Int)))] ++ ([D.b (runV (D.I d) (D.L e) (D.L i) (mk3 (D.i (D.I f)) (D.i (D.I g)) (D.i (D.I h))) (D.I b) (Int.toNat (0 : Int)) (List.length (D.L i) - Int.toNat (0 : Int)) (pvOf (D.b false) (D.i (D.I b)) (D.i (D.I c)))).c] ++ [])) ++ [] ++ []]), D.i (D.I c), D.i (D.I d), D.l (D.L e), D.i (D.I f), D.i (D.I g), D.i (D.I h), D.l (D.L i)])) (T.leaf (Rd.again [D.l (D.L a ++ [[D.i (D.I b)] ++ ([D.i (if D.I c < if (runV (D.I d) (D.L e) (D.L i) (mk3 (D.i (D.I f)) (D.i (D.I g)) (D.i (D.I h))) (D.I b) (Int.toNat (0 : Int)) (List.length (D.L i) - Int.toNat (0 : Int)) (pvOf (D.b false) (D.i (D.I b)) (D.i (D.I c)))).nx > IntKind.wrap IntKind.i64 (D.I b + (1 : Int)) then (runV (D.I d) (D.L e) (D.L i) (mk3 (D.i (D.I f)) (D.i (D.I g)) (D.i (D.I h))) (D.I b) (Int.toNat (0 : Int)) (List.length (D.L i) - Int.toNat (0 : Int)) (pvOf (D.b false) (D.i (D.I b)) (D.i (D.I c)))).nx else IntKind.wrap IntKind.i64 (D.I b + (1 : Int)) then D.I c else if (runV (D.I d) (D.L e) (D.L i) (mk3 (D.i (D.I f)) (D.i (D.I g)) (D.i (D.I h))) (D.I b) (Int.toNat (0 : Int)) (List.length (D.L i) - Int.toNat (0 : Int)) (pvOf (D.b false) (D.i (D.I b)) (D.i (D.I c)))).nx > IntKind.wrap IntKind.i64 (D.I b + (1 : Int)) then (runV (D.I d) (D.L e) (D.L i) (mk3 (D.i (D.I f)) (D.i (D.I g)) (D.i (D.I h))) (D.I b) (Int.toNat (0 : Int)) (List.length (D.L i) - Int.toNat (0 : Int)) (pvOf (D.b false) (D.i (D.I b)) (D.i (D.I c)))).nx else IntKind.wrap IntKind.i64 (D.I b + (1 : Int)))] ++ ([D.b (runV (D.I d) (D.L e) (D.L i) (mk3 (D.i (D.I f)) (D.i (D.I g)) (D.i (D.I h))) (D.I b) (Int.toNat (0 : Int)) (List.length (D.L i) - Int.toNat (0 : Int)) (pvOf (D.b false) (D.i (D.I b)) (D.i (D.I c)))).c] ++ [])) ++ [] ++ []]), D.i (if D.I c < if (runV (D.I d) (D.L e) (D.L i) (mk3 (D.i (D.I f)) (D.i (D.I g)) (D.i (D.I h))) (D.I b) (Int.toNat (0 : Int)) (List.length (D.L i) - Int.toNat (0 : Int)) (pvOf (D.b false) (D.i (D.I b)) (D.i (D.I c)))).nx > IntKind.wrap IntKind.i64 (D.I b + (1 : Int)) then (runV (D.I d) (D.L e) (D.L i) (mk3 (D.i (D.I f)) (D.i (D.I g)) (D.i (D.I h))) (D.I b) (Int.toNat (0 : Int)) (List.length (D.L i) - Int.toNat (0 : Int)) (pvOf (D.b false) (D.i (D.I b)) (D.i (D.I c)))).nx else IntKind.wrap IntKind.i64 (D.I b + (1 : Int)) then D.I c else if (runV (D.I d) (D.L e) (D.L i) (mk3 (D.i (D.I f)) (D.i (D.I g)) (D.i (D.I h))) (D.I b) (Int.toNat (0 : Int)) (List.length (D.L i) - Int.toNat (0 : Int)) (pvOf (D.b false) (D.i (D.I b)) (D.i (D.I c)))).nx > IntKind.wrap IntKind.i64 (D.I b + (1 : Int)) then (runV (D.I d) (D.L e) (D.L i) (mk3 (D.i (D.I f)) (D.i (D.I g)) (D.i (D.I h))) (D.I b) (Int.toNat (0 : Int)) (List.length (D.L i) - Int.toNat (0 : Int)) (pvOf (D.b false) (D.i (D.I b)) (D.i (D.I c)))).nx else IntKind.wrap IntKind.i64 (D.I b + (1 : Int))), D.i (D.I c), D.i (D.I d), D.l (D.L e), D.i (D.I f), D.i (D.I g), D.i (D.I h), D.l (D.L i)]))) (T.ite (!!List.length (D.L a) == (tab96 q).q) (T.leaf (Rd.out Ex.ret [D.l (D.L a ++ [[D.i (D.I b)] ++ ([D.i (if D.I c < (runV (D.I d) (D.L e) (D.L i) (mk3 (D.i (D.I f)) (D.i (D.I g)) (D.i (D.I h))) (D.I b) (Int.toNat (0 : Int)) (List.length (D.L i) - Int.toNat (0 : Int)) (pvOf (D.b false) (D.i (D.I b)) (D.i (D.I c)))).to then D.I c else (runV (D.I d) (D.L e) (D.L i) (mk3 (D.i (D.I f)) (D.i (D.I g)) (D.i (D.I h))) (D.I b) (Int.toNat (0 : Int)) (List.length (D.L i) - Int.toNat (0 : Int)) (pvOf (D.b false) (D.i (D.I b)) (D.i (D.I c)))).to)] ++ ([D.b (runV (D.I d) (D.L e) (D.L i) (mk3 (D.i (D.I f)) (D.i (D.I g)) (D.i (D.I h))) (D.I b) (Int.toNat (0 : Int)) (List.length (D.L i) - Int.toNat (0 : Int)) (pvOf (D.b false) (D.i (D.I b)) (D.i (D.I c)))).c] ++ [])) ++ [] ++ []]), D.i (D.I c), D.i (D.I d), D.l (D.L e), D.i (D.I f), D.i (D.I g), D.i (D.I h), D.l (D.L i)])) (T.leaf (Rd.again [D.l (D.L a ++ [[D.i (D.I b)] ++ ([D.i (if D.I c < (runV (D.I d) (D.L e) (D.L i) (mk3 (D.i (D.I f)) (D.i (D.I g)) (D.i (D.I h))) (D.I b) (Int.toNat (0 : Int)) (List.length (D.L i) - Int.toNat (0 : Int)) (pvOf (D.b false) (D.i (D.I b)) (D.i (D.I c)))).to then D.I c else (runV (D.I d) (D.L e) (D.L i) (mk3 (D.i (D.I f)) (D.i (D.I g)) (D.i (D.I h))) (D.I b) (Int.toNat (0 : Int)) (List.length (D.L i) - Int.toNat (0 : Int)) (pvOf (D.b false) (D.i (D.I b)) (D.i (D.I c)))).to)] ++ ([D.b (runV (D.I d) (D.L e) (D.L i) (mk3 (D.i (D.I f)) (D.i (D.I g)) (D.i (D.I h))) (D.I b) (Int.toNat (0 : Int)) (List.length (D.L i) - Int.toNat (0 : Int)) (pvOf (D.b false) (D.i (D.I b)) (D.i (D.I c)))).c] ++ [])) ++ [] ++ []]), D.i (if D.I c < (runV (D.I d) (D.L e) (D.L i) (mk3 (D.i (D.I f)) (D.i (D.I g)) (D.i (D.I h))) (D.I b) (Int.toNat (0 : Int)) (List.length (D.L i) - Int.toNat (0 : Int)) (pvOf (D.b false) (D.i (D.I b)) (D.i (D.I c)))).to then D.I c else (runV (D.I d) (D.L e) (D.L i) (mk3 (D.i (D.I f)) (D.i (D.I g)) (D.i (D.I h))) (D.I b) (Int.toNat (0 : Int)) (List.length (D.L i) - Int.toNat (0 : Int)) (pvOf (D.b false) (D.i (D.I b)) (D.i (D.I c)))).to), D.i (D.I c), D.i (D.I d), D.l (D.L e), D.i (D.I f), D.i (D.I g), D.i (D.I h), D.l (D.L i)])))))) (T.leaf (Rd.out (Ex.exit 0) [D.l (D.L a), D.i (D.I c), D.i (D.I d), D.l (D.L e), D.i (D.I f), D.i (D.I g), D.i (D.I h), D.l (D.L i)])) := by kernel_rfl
theorem t96_6 (q : Nat) (a b c d e f g h i j k l m n o p q1 r : D) : roundTY C (tab96 q) 96 (loopOf C.P 96 6) 4 l96_6 [a, b, c, d, e, f, g, h, i, j, k, l, m, n, o, p, q1, r] =
  T.ite (decide (D.I g < D.I f)) (T.need (decide ((0 : Int) ≤ D.I g ∧ D.I g < (↑(List.length (D.L e)) : Int))) (T.ite (IntKind.wrap IntKind.i64 (↑(BitVec.toNat (BitVec.ofInt (IntKind.bits IntKind.i64) (D.I (List.getD (List.getD (D.L e) (Int.toNat (D.I g)) []) (0 + 1) default)) &&& BitVec.ofInt (IntKind.bits IntKind.i64) (D.I l))) : Int) != D.I l) (T.leaf (Rd.again [D.l (D.L a), D.i (D.I b), D.i (↑(Int.toNat (D.I c)) : Int), D.i (D.I d), D.l (D.L e), D.i (D.I f), D.i (IntKind.wrap IntKind.i64 (D.I g + (1 : Int))), D.i (D.I h), D.i (D.I i), D.l (D.L j), D.i (D.I k), D.i (D.I l), D.i (D.I m), D.l (D.L n), D.l (D.L o), D.i (D.I p), D.i (D.I q1), D.b (D.B r)])) (T.ite (decide (D.I b ≥ D.I (List.getD (List.getD (D.L e) (Int.toNat (D.I g)) []) (0 + 1 + 1 + 1) default))) (T.leaf (Rd.again [D.l (D.L a), D.i (D.I b), D.i (↑(Int.toNat (D.I c)) : Int), D.i (D.I d), D.l (D.L e), D.i (D.I f), D.i (IntKind.wrap IntKind.i64 (D.I g + (1 : Int))), D.i (D.I h), D.i (D.I i), D.l (D.L j), D.i (D.I k), D.i (D.I l), D.i (D.I m), D.l (D.L n), D.l (D.L o), D.i (D.I p), D.i (D.I q1), D.b (D.B r)])) (T.ite (decide (D.I b < D.I (List.getD (List.getD (D.L e) (Int.toNat (D.I g)) []) (0 + 1 + 1) default))) (T.leaf (Rd.again [D.l (D.L a), D.i (D.I b), D.i (↑(Int.toNat (D.I c)) : Int), D.i (if D.I (List.getD (List.getD (D.L e) (Int.toNat (D.I g)) []) (0 + 1 + 1) default) < D.I d then D.I (List.getD (List.getD (D.L e) (Int.toNat (D.I g)) []) (0 + 1 + 1) default) else D.I d), D.l (D.L e), D.i (D.I f), D.i (IntKind.wrap IntKind.i64 (D.I g + (1 : Int))), D.i (D.I h), D.i (D.I i), D.l (D.L j), D.i (D.I k), D.i (D.I l), D.i (D.I m), D.l (D.L n), D.l (D.L o), D.i (D.I p), D.i (D.I q1), D.b (D.B r)])) (T.need (decide ((0 : Int) ≤ D.I (List.getD (List.getD (D.L e) (Int.toNat (D.I g)) []) 0 default) ∧ D.I (List.getD (List.getD (D.L e) (Int.toNat (D.I g)) []) 0 default) < (↑(Int.toNat (D.I c)) : Int))) (T.need (decide (Int.toNat (D.I (List.getD (List.getD (D.L e) (Int.toNat (D.I g)) []) 0 default)) < List.length (D.L o))) (T.ite (decide (D.I (List.getD (List.getD (D.L o) (Int.toNat (D.I (List.getD (List.getD (D.L e) (Int.toNat (D.I g)) []) 0 default))) []) 0 default) ≥ D.I b)) (T.need (decide ((0 : Int) ≤ D.I (List.getD (List.getD (D.L e) (Int.toNat (D.I g)) []) 0 default) ∧ D.I (List.getD (List.getD (D.L e) (Int.toNat (D.I g)) []) 0 default) < (↑(Int.toNat (D.I c)) : Int))) (T.need (decide (Int.toNat (D.I (List.getD (List.getD (D.L e) (Int.toNat (D.I g)) []) 0 default)) < List.length (D.L o))) (T.leaf (Rd.again [D.l (D.L a), D.i (D.I b), D.i (↑(Int.toNat (D.I c)) : Int), D.i (D.I d), D.l (D.L e), D.i (D.I f), D.i (IntKind.wrap IntKind.i64 (D.I g + (1 : Int))), D.i (D.I h), D.i (D.I i), D.l (D.L j), D.i (D.I k), D.i (D.I l), D.i (D.I m), D.l (D.L n), D.l (D.L o), D.i (D.I p), D.i (if (if D.I (List.getD (List.getD (D.L e) (Int.toNat (D.I g)) []) (0 + 1 + 1 + 1) default) < IntKind.wrap IntKind.i64 (D.I (List.getD (List.getD (D.L o) (Int.toNat (D.I (List.getD (List.getD (D.L e) (Int.toNat (D.I g)) []) 0 default))) []) 0 default) + (1 : Int)) then D.I (List.getD (List.getD (D.L e) (Int.toNat (D.I g)) []) (0 + 1 + 1 + 1) default) else IntKind.wrap IntKind.i64 (D.I (List.getD (List.getD (D.L o) (Int.toNat (D.I (List.getD (List.getD (D.L e) (Int.toNat (D.I g)) []) 0 default))) []) 0 default) + (1 : Int))) > D.I q1 then if D.I (List.getD (List.getD (D.L e) (Int.toNat (D.I g)) []) (0 + 1 + 1 + 1) default) < IntKind.wrap IntKind.i64 (D.I (List.getD (List.getD (D.L o) (Int.toNat (D.I (List.getD (List.getD (D.L e) (Int.toNat (D.I g)) []) 0 default))) []) 0 default) + (1 : Int)) then D.I (List.getD (List.getD (D.L e) (Int.toNat (D.I g)) []) (0 + 1 + 1 + 1) default) else IntKind.wrap IntKind.i64 (D.I (List.getD (List.getD (D.L o) (Int.toNat (D.I (List.getD (List.getD (D.L e) (Int.toNat (D.I g)) []) 0 default))) []) 0 default) + (1 : Int)) else D.I q1), D.b true])))) (T.need (yes ((0 : Int) ≤ D.I i ∧ D.I i < (1099511627776 : Int) ∧ (0 : Int) ≤ D.I (List.getD (List.getD (D.L e) (Int.toNat (D.I g)) []) 0 default) ∧ D.I (List.getD (List.getD (D.L e) (Int.toNat (D.I g)) []) 0 default) < D.I i ∧ haltS (Int.toNat (D.I i)) (D.L j) (startS (D.I i) (D.I (List.getD (List.getD (D.L e) (Int.toNat (D.I g)) []) 0 default)) (D.I b)))) (T.need (decide ((0 : Int) ≤ D.I k ∧ D.I k < (↑(Int.toNat (D.I i)) : Int))) (T.need (decide (Int.toNat (D.I k) < List.length (arrF (D.I i) (D.L j) (D.I (List.getD (List.getD (D.L e) (Int.toNat (D.I g)) []) 0 default)) (D.I b)))) (T.ite (decide (D.I (List.getD (List.getD (arrF (D.I i) (D.L j) (D.I (List.getD (List.getD (D.L e) (Int.toNat (D.I g)) []) 0 default)) (D.I b)) (Int.toNat (D.I k)) []) 0 default) ≥ (0 : Int))) (T.leaf (Rd.again [D.l (D.L a), D.i (D.I b), D.i (↑(Int.toNat (D.I c)) : Int), D.i (if (if IntKind.wrap IntKind.i64 (D.I (List.getD (List.getD (arrF (D.I i) (D.L j) (D.I (List.getD (List.getD (D.L e) (Int.toNat (D.I g)) []) 0 default)) (D.I b)) (Int.toNat (D.I k)) []) 0 default) - D.I m) > IntKind.wrap IntKind.i64 (D.I b + (1 : Int)) then IntKind.wrap IntKind.i64 (D.I (List.getD (List.getD (arrF (D.I i) (D.L j) (D.I (List.getD (List.getD (D.L e) (Int.toNat (D.I g)) []) 0 default)) (D.I b)) (Int.toNat (D.I k)) []) 0 default) - D.I m) else IntKind.wrap IntKind.i64 (D.I b + (1 : Int))) < D.I d then if IntKind.wrap IntKind.i64 (D.I (List.getD (List.getD (arrF (D.I i) (D.L j) (D.I (List.getD (List.getD (D.L e) (Int.toNat (D.I g)) []) 0 default)) (D.I b)) (Int.toNat (D.I k)) []) 0 default) - D.I m) > IntKind.wrap IntKind.i64 (D.I b + (1 : Int)) then IntKind.wrap IntKind.i64 (D.I (List.getD (List.getD (arrF (D.I i) (D.L j) (D.I (List.getD (List.getD (D.L e) (Int.toNat (D.I g)) []) 0 default)) (D.I b)) (Int.toNat (D.I k)) []) 0 default) - D.I m) else IntKind.wrap IntKind.i64 (D.I b + (1 : Int)) else D.I d), D.l (D.L e), D.i (D.I f), D.i (IntKind.wrap IntKind.i64 (D.I g + (1 : Int))), D.i (D.I h), D.i (D.I i), D.l (D.L j), D.i (D.I k), D.i (D.I l), D.i (D.I m), D.l (D.L n), D.l (D.L o), D.i (D.I p), D.i (D.I q1), D.b (D.B r)])) (T.leaf (Rd.again [D.l (D.L a), D.i (D.I b), D.i (↑(Int.toNat (D.I c)) : Int), D.i (D.I d), D.l (D.L e), D.i (D.I f), D.i (IntKind.wrap IntKind.i64 (D.I g + (1 : Int))), D.i (D.I h), D.i (D.I i), D.l (D.L j), D.i (D.I k), D.i (D.I l), D.i (D.I m), D.l (D.L n), D.l (D.L o), D.i (D.I p), D.i (D.I q1), D.b (D.B r)]))))))))))))) (T.leaf (Rd.out (Ex.exit 2) [D.l (D.L a), D.i (D.I b), D.i (D.I d), D.i (D.I h), D.i (D.I i), D.l (D.L j), D.i (D.I k), D.i (D.I l), D.i (D.I m), D.l (D.L n), D.i (D.I p), D.i (D.I q1), D.b (D.B r)])) := by kernel_rfl
theorem t81 (a b c d e f g : D) : fnTW C tab81 81 s81 [a, b, c, d, e, f, g] =
  T.leaf [D.i (D.I g), D.i (D.I a), D.l (D.L b), D.i (D.I d), D.i (D.I e), D.i (D.I f), D.l (D.L c)] := by kernel_rfl
theorem t53 (a b c d e : D) : fnT C tab53 53 s53 [a, b, c, d, e] =
  T.need (yes ((↑0 : Int) = (0 : Int) ∧ okG (D.I a) (D.L b) (D.L c) (D.L d) (D.I e) ∧ (↑(List.length (D.L d)) : Int) = (↑(List.length (D.L d)) : Int) ∧ (0 : Int) ≤ (0 : Int) ∧ (0 : Int) ≤ (↑(List.length (D.L d)) : Int))) (T.ite (List.isEmpty (gapsZ (D.I a) (D.L b) (D.L c) (D.L d) (D.I e) (Int.toNat (0 : Int)) (List.length (D.L d) - Int.toNat (0 : Int)) [])) (T.leaf [D.i (0 : Int)]) (T.leaf [D.i (1 : Int), D.i (↑(Int.toNat (↑(List.length (gapsZ (D.I a) (D.L b) (D.L c) (D.L d) (D.I e) (Int.toNat (0 : Int)) (List.length (D.L d) - Int.toNat (0 : Int)) [])) : Int)) : Int), D.l (gapsZ (D.I a) (D.L b) (D.L c) (D.L d) (D.I e) (Int.toNat (0 : Int)) (List.length (D.L d) - Int.toNat (0 : Int)) [])])) := by kernel_rfl
theorem t53_3_0 (a b c d e f g : D) : roundT C tab53 53 (loopOf C.P 53 3) l53_3 [.i 0, a, b, c, d, e, f, g] =
  T.ite (decide (D.I e < D.I d)) (T.need (decide ((0 : Int) ≤ D.I e ∧ D.I e < (↑(List.length (D.L c)) : Int))) (T.need (yes (okP (D.I f) (D.L g) (D.L a) (mk3 (D.i (D.I (List.getD (List.getD (D.L c) (Int.toNat (D.I e)) []) 0 default))) (D.i (D.I (List.getD (List.getD (D.L c) (Int.toNat (D.I e)) []) (0 + 1) default))) (D.i (D.I (List.getD (List.getD (D.L c) (Int.toNat (D.I e)) []) (0 + 1 + 1) default)))) (D.I b))) (T.need (yes ((↑0 : Int) = (0 : Int) ∧ false = false ∧ List.length (pieceL (D.I f) (D.L g) (D.L a) (mk3 (D.i (D.I (List.getD (List.getD (D.L c) (Int.toNat (D.I e)) []) 0 default))) (D.i (D.I (List.getD (List.getD (D.L c) (Int.toNat (D.I e)) []) (0 + 1) default))) (D.i (D.I (List.getD (List.getD (D.L c) (Int.toNat (D.I e)) []) (0 + 1 + 1) default)))) (D.I b) (Int.toNat (D.I b)) (0 : Int)) ≤ 1000000)) (T.ite (List.isEmpty (gapsF (D.I e) (pieceL (D.I f) (D.L g) (D.L a) (mk3 (D.i (D.I (List.getD (List.getD (D.L c) (Int.toNat (D.I e)) []) 0 default))) (D.i (D.I (List.getD (List.getD (D.L c) (Int.toNat (D.I e)) []) (0 + 1) default))) (D.i (D.I (List.getD (List.getD (D.L c) (Int.toNat (D.I e)) []) (0 + 1 + 1) default)))) (D.I b) (Int.toNat (D.I b)) (0 : Int)) ([], false)).fst) (T.leaf (Rd.again [D.i (0 : Int), D.l (D.L a), D.i (D.I b), D.l (D.L c), D.i (D.I d), D.i (IntKind.wrap IntKind.i64 (D.I e + (1 : Int))), D.i (D.I f), D.l (D.L g)])) (T.leaf (Rd.again [D.i (1 : Int), D.l (D.L a), D.i (D.I b), D.l (D.L c), D.i (D.I d), D.i (IntKind.wrap IntKind.i64 (D.I e + (1 : Int))), D.i (D.I f), D.l (D.L g), D.i (↑(Int.toNat (↑(List.length (gapsF (D.I e) (pieceL (D.I f) (D.L g) (D.L a) (mk3 (D.i (D.I (List.getD (List.getD (D.L c) (Int.toNat (D.I e)) []) 0 default))) (D.i (D.I (List.getD (List.getD (D.L c) (Int.toNat (D.I e)) []) (0 + 1) default))) (D.i (D.I (List.getD (List.getD (D.L c) (Int.toNat (D.I e)) []) (0 + 1 + 1) default)))) (D.I b) (Int.toNat (D.I b)) (0 : Int)) ([], false)).fst) : Int)) : Int), D.l (gapsF (D.I e) (pieceL (D.I f) (D.L g) (D.L a) (mk3 (D.i (D.I (List.getD (List.getD (D.L c) (Int.toNat (D.I e)) []) 0 default))) (D.i (D.I (List.getD (List.getD (D.L c) (Int.toNat (D.I e)) []) (0 + 1) default))) (D.i (D.I (List.getD (List.getD (D.L c) (Int.toNat (D.I e)) []) (0 + 1 + 1) default)))) (D.I b) (Int.toNat (D.I b)) (0 : Int)) ([], false)).fst])))))) (T.leaf (Rd.out (Ex.exit 0) [D.i (0 : Int)])) := by kernel_rfl
theorem t53_3_1 (a b c d e f g h i : D) : roundT C tab53 53 (loopOf C.P 53 3) l53_3 [.i 1, a, b, c, d, e, f, g, h, i] =
  T.ite (decide (D.I e < D.I d)) (T.need (decide ((0 : Int) ≤ D.I e ∧ D.I e < (↑(List.length (D.L c)) : Int))) (T.need (yes (okP (D.I f) (D.L g) (D.L a) (mk3 (D.i (D.I (List.getD (List.getD (D.L c) (Int.toNat (D.I e)) []) 0 default))) (D.i (D.I (List.getD (List.getD (D.L c) (Int.toNat (D.I e)) []) (0 + 1) default))) (D.i (D.I (List.getD (List.getD (D.L c) (Int.toNat (D.I e)) []) (0 + 1 + 1) default)))) (D.I b))) (T.need (yes ((↑(0 + 1) : Int) = (1 : Int) ∧ (↑(Int.toNat (D.I h)) : Int) = (↑(List.length (D.L i)) : Int) ∧ 0 < List.length (D.L i) ∧ List.length (pieceL (D.I f) (D.L g) (D.L a) (mk3 (D.i (D.I (List.getD (List.getD (D.L c) (Int.toNat (D.I e)) []) 0 default))) (D.i (D.I (List.getD (List.getD (D.L c) (Int.toNat (D.I e)) []) (0 + 1) default))) (D.i (D.I (List.getD (List.getD (D.L c) (Int.toNat (D.I e)) []) (0 + 1 + 1) default)))) (D.I b) (Int.toNat (D.I b)) (0 : Int)) ≤ 1000000 ∧ (↑(Int.toNat (D.I h)) : Int) + (↑(List.length (pieceL (D.I f) (D.L g) (D.L a) (mk3 (D.i (D.I (List.getD (List.getD (D.L c) (Int.toNat (D.I e)) []) 0 default))) (D.i (D.I (List.getD (List.getD (D.L c) (Int.toNat (D.I e)) []) (0 + 1) default))) (D.i (D.I (List.getD (List.getD (D.L c) (Int.toNat (D.I e)) []) (0 + 1 + 1) default)))) (D.I b) (Int.toNat (D.I b)) (0 : Int))) : Int) ≤ (1000000000 : Int))) (T.leaf (Rd.again [D.i (1 : Int), D.l (D.L a), D.i (D.I b), D.l (D.L c), D.i (D.I d), D.i (IntKind.wrap IntKind.i64 (D.I e + (1 : Int))), D.i (D.I f), D.l (D.L g), D.i (↑(Int.toNat (↑(List.length (gapsF (D.I e) (pieceL (D.I f) (D.L g) (D.L a) (mk3 (D.i (D.I (List.getD (List.getD (D.L c) (Int.toNat (D.I e)) []) 0 default))) (D.i (D.I (List.getD (List.getD (D.L c) (Int.toNat (D.I e)) []) (0 + 1) default))) (D.i (D.I (List.getD (List.getD (D.L c) (Int.toNat (D.I e)) []) (0 + 1 + 1) default)))) (D.I b) (Int.toNat (D.I b)) (0 : Int)) (D.L i, false)).fst) : Int)) : Int), D.l (gapsF (D.I e) (pieceL (D.I f) (D.L g) (D.L a) (mk3 (D.i (D.I (List.getD (List.getD (D.L c) (Int.toNat (D.I e)) []) 0 default))) (D.i (D.I (List.getD (List.getD (D.L c) (Int.toNat (D.I e)) []) (0 + 1) default))) (D.i (D.I (List.getD (List.getD (D.L c) (Int.toNat (D.I e)) []) (0 + 1 + 1) default)))) (D.I b) (Int.toNat (D.I b)) (0 : Int)) (D.L i, false)).fst]))))) (T.leaf (Rd.out (Ex.exit 0) [D.i (1 : Int), D.i (↑(Int.toNat (D.I h)) : Int), D.l (D.L i)])) := by kernel_rfl
theorem t53_r10_0 (a b c d e f g h i j k l : D) : roundRT C tab53 53 (rangeOf C.P 53 10) 0 4 [1, 3, 4, 8, 9, 10, 12, 14, 15, 16, 25] h53_10 y96 [.i 0, a, b, c, d, e, f, g, h, i] [j, k, l] =
  T.ite (D.B l) (T.leaf (Rd.again [D.i (0 : Int), D.l (D.L a), D.i (D.I b), D.l (D.L c), D.i (D.I d), D.i (D.I e), D.i (D.I f), D.l (D.L g), D.i (D.I h), D.b false], [])) (T.ite (D.B i) T.fail (T.need true (T.ite false (T.leaf (Rd.again [D.i (0 : Int), D.l (D.L a), D.i (D.I b), D.l (D.L c), D.i (D.I d), D.i (D.I e), D.i (D.I f), D.l (D.L g), D.i (D.I h), D.b true], [])) (T.need true (T.leaf (Rd.again [D.i (1 : Int), D.l (D.L a), D.i (D.I b), D.l (D.L c), D.i (D.I d), D.i (D.I e), D.i (D.I f), D.l (D.L g), D.i (1 : Int), D.i (D.I h), D.b true, D.l [[D.i (D.I h), D.i (D.I j), D.i (D.I k)]]], [])))))) := by kernel_rfl
theorem t53_r10_1 (a b c d e f g h i j k l m n : D) : roundRT C tab53 53 (rangeOf C.P 53 10) 0 5 [1, 3, 4, 8, 9, 10, 12, 14, 15, 16, 25] h53_10 y96 [.i 1, a, b, c, d, e, f, g, h, i, j, k] [l, m, n] =
  T.ite (D.B n) (T.leaf (Rd.again [D.i (1 : Int), D.l (D.L a), D.i (D.I b), D.l (D.L c), D.i (D.I d), D.i (D.I e), D.i (D.I f), D.l (D.L g), D.i (↑(Int.toNat (D.I h)) : Int), D.i (D.I i), D.b false, D.l (D.L k)], [])) (T.ite (D.B j) (T.need (decide ((0 : Int) ≤ IntKind.wrap IntKind.i64 ((↑(Int.toNat (D.I h)) : Int) - (1 : Int)) ∧ IntKind.wrap IntKind.i64 ((↑(Int.toNat (D.I h)) : Int) - (1 : Int)) < (↑(Int.toNat (D.I h)) : Int))) (T.need (decide (Int.toNat (IntKind.wrap IntKind.i64 ((↑(Int.toNat (D.I h)) : Int) - (1 : Int))) < List.length (D.L k))) (T.leaf (Rd.again [D.i (1 : Int), D.l (D.L a), D.i (D.I b), D.l (D.L c), D.i (D.I d), D.i (D.I e), D.i (D.I f), D.l (D.L g), D.i (↑(Int.toNat (D.I h)) : Int), D.i (D.I i), D.b (D.B j), D.l (List.set (D.L k) (Int.toNat (IntKind.wrap IntKind.i64 ((↑(Int.toNat (D.I h)) : Int) - (1 : Int)))) (updC (List.getD (D.L k) (Int.toNat (IntKind.wrap IntKind.i64 ((↑(Int.toNat (D.I h)) : Int) - (1 : Int)))) []) [D.i (D.I m)] (0 + 2) 0 (List.length [K.int IntKind.i64, K.int IntKind.i64, K.int IntKind.i64])))], [])))) (T.need true (T.ite false (T.leaf (Rd.again [D.i (1 : Int), D.l (D.L a), D.i (D.I b), D.l (D.L c), D.i (D.I d), D.i (D.I e), D.i (D.I f), D.l (D.L g), D.i (↑(Int.toNat (D.I h)) : Int), D.i (D.I i), D.b true, D.l (D.L k)], [])) (T.need (decide (Int.toNat (D.I h) ≤ List.length (D.L k) ∧ Int.toNat (D.I h) + List.length (List.take (List.length [[D.i (D.I i), D.i (D.I l), D.i (D.I m)]]) [[D.i (D.I i), D.i (D.I l), D.i (D.I m)]]) ≤ 2 ^ 62 ∧ (Int.toNat (D.I h) + List.length (List.take (List.length [[D.i (D.I i), D.i (D.I l), D.i (D.I m)]]) [[D.i (D.I i), D.i (D.I l), D.i (D.I m)]])) * Try.prog.types[57].bytes ≤ 2 ^ 47)) (T.leaf (Rd.again [D.i (1 : Int), D.l (D.L a), D.i (D.I b), D.l (D.L c), D.i (D.I d), D.i (D.I e), D.i (D.I f), D.l (D.L g), D.i (↑(Int.toNat (D.I h) + List.length (List.take (List.length [[D.i (D.I i), D.i (D.I l), D.i (D.I m)]]) [[D.i (D.I i), D.i (D.I l), D.i (D.I m)]])) : Int), D.i (D.I i), D.b true, D.l (List.take (Int.toNat (D.I h)) (D.L k) ++ List.take (List.length [[D.i (D.I i), D.i (D.I l), D.i (D.I m)]]) [[D.i (D.I i), D.i (D.I l), D.i (D.I m)]])], [])))))) := by kernel_rfl
theorem t27 (a b c d e : D) : fnT C tab27 27 s27 [a, b, c, d, e] =
  T.need (yes ((60 : Int) ≤ (1000 : Int))) (T.ite (!coverB (D.I a) (D.L b) (D.L c) (60 : Int) (D.L d) (D.I e)) (T.leaf [D.i (0 : Int), D.i (2 : Int)]) (T.need (yes (okG (D.I a) (D.L b) (D.L c) (D.L d) (D.I e))) (T.ite (List.isEmpty (gapsA (D.I a) (D.L b) (D.L c) (D.L d) (D.I e))) (T.leaf [D.i (0 : Int), D.i (0 : Int)]) (T.leaf [D.i (1 : Int), D.i (↑(Int.toNat (↑(List.length (gapsA (D.I a) (D.L b) (D.L c) (D.L d) (D.I e))) : Int)) : Int), D.i (0 : Int), D.l (gapsA (D.I a) (D.L b) (D.L c) (D.L d) (D.I e))])))) := by kernel_rfl
end Go.Proofs.Ytgmefblkmidglaa
namespace Go.Proofs.Ytgmefblkmidglaa
open Go.Lite
set_option maxRecDepth 100000
set_option linter.unusedVariables false
theorem upd3 (c : List D) (d : D) (k1 k2 k3 : K) : updC c [d] 2 0 (List.length [k1, k2, k3]) = [c.getD 0 default, c.getD 1 default, d] := by simp [updC]
theorem setTo_len (g : List (List D)) (x : Int) : (setTo g x).length = g.length := by simp [setTo]
theorem gapT_len (i t : Int) (c : Bool) (s : List (List D) × Bool) : s.1.length ≤ (gapT i t c s).1.length ∧ (gapT i t c s).1.length ≤ s.1.length + 1 := by
  unfold gapT
  split
  · exact ⟨Nat.le_refl _, Nat.le_succ _⟩
  · split
    · simp only [setTo_len]; omega
    · simp only [List.length_append, List.length_cons, List.length_nil]; omega
theorem refT_len (p : Int → Bool) (i : Int) : ∀ (k : Nat) (t : Int) (s : List (List D) × Bool), s.1.length ≤ (refT p i k t s).1.length ∧ (refT p i k t s).1.length ≤ s.1.length + k
  | 0, _, _ => ⟨Nat.le_refl _, Nat.le_refl _⟩
  | k + 1, t, s => by
    have h1 := refT_len p i k (t + 1) (gapT i t (p t) s)
    have h2 := gapT_len i t (p t) s
    simp only [refT]
    omega
theorem empty_false {α : Type} {l : List α} (h : 0 < l.length) : l.isEmpty = false := by
  cases l with
  | nil => simp at h
  | cons a l => rfl
theorem empty_nil {α : Type} {l : List α} (h : l.isEmpty = true) : l = [] := List.isEmpty_iff.1 h
theorem upd3' (c : List D) (d : D) (k1 k2 k3 : K) : updC c [d] (0 + 2) 0 (List.length [k1, k2, k3]) = [c.getD 0 default, c.getD 1 default, d] := upd3 c d k1 k2 k3
theorem get_last (g : List (List D)) (r : List D) : (g ++ [r]).getD g.length [] = r := by
  rw [List.getD_eq_getElem?_getD, List.getElem?_append_right (Nat.le_refl _), Nat.sub_self]
  rfl
theorem set_last (g : List (List D)) (r r' : List D) : (g ++ [r]).set g.length r' = g ++ [r'] := by
  rw [List.set_append_right _ _ (Nat.le_refl _), Nat.sub_self]
  rfl
theorem veh_of {n : Int} {v : List (List D)} (h : vehs n v = true) {k : Nat} (hk : k < v.length) : vehL n v k = true := allFrom_iff.1 h k (Nat.zero_le _) (by omega)
theorem zon_of {n : Int} {z : List (List D)} (h : zons n z = true) {k : Nat} (hk : k < z.length) : zonL n z k = true := allFrom_iff.1 h k (Nat.zero_le _) (by omega)
theorem refZ_len (n : Int) (r v z : List (List D)) (h : Int) : ∀ (k i : Nat) (g : List (List D)), g.length ≤ (refZ n r v z h i k g).length ∧ (refZ n r v z h i k g).length ≤ g.length + k * h.toNat
  | 0, _, g => ⟨Nat.le_refl _, by simp only [refZ]; omega⟩
  | k + 1, i, g => by
    have h1 := refZ_len n r v z h k (i + 1) (refT (secsF n r v (z.getD i [])) i h.toNat 0 (g, false)).1
    have h2 := refT_len (secsF n r v (z.getD i [])) i h.toNat 0 (g, false)
    simp only [refZ]
    rw [Nat.succ_mul]
    simp only at h2
    omega
end Go.Proofs.Ytgmefblkmidglaa
namespace Go.Proofs.Ytgmefblkmidglaa
open Go.Lite
set_option linter.unusedVariables false
set_option maxRecDepth 100000
theorem t106 (q : Nat) (a : D) : fnTY C (tab106 q) 106 s106 [a] =
  T.need (yes (List.length (D.L a) < big ∧ (-1 : Int) ≤ IntKind.wrap IntKind.i64 ((↑(List.length (D.L a)) : Int) - (1 : Int)) ∧ IntKind.wrap IntKind.i64 ((↑(List.length (D.L a)) : Int) - (1 : Int)) < (↑(List.length (D.L a)) : Int) ∧ List.length ([] : List (List D)) ≤ q)) (T.ite (decide (q < List.length ([] : List (List D)) + Int.toNat (IntKind.wrap IntKind.i64 ((↑(List.length (D.L a)) : Int) - (1 : Int)) + (1 : Int)))) (T.leaf ([] ++ List.take (q + 1 - List.length ([] : List (List D))) (backY (D.L a) (Int.toNat (IntKind.wrap IntKind.i64 ((↑(List.length (D.L a)) : Int) - (1 : Int)) + (1 : Int)))))) (T.leaf ([] ++ backY (D.L a) (Int.toNat (IntKind.wrap IntKind.i64 ((↑(List.length (D.L a)) : Int) - (1 : Int)) + (1 : Int)))))) := by kernel_rfl
theorem t106_1 (q : Nat) (a b c : D) : roundTY C (tab106 q) 106 (loopOf C.P 106 1) 1 l106_1 [a, b, c] =
  T.ite (decide (D.I b ≥ (0 : Int))) (T.need (decide ((0 : Int) ≤ D.I b ∧ D.I b < (↑(List.length (D.L c)) : Int))) (T.ite (!!List.length (D.L a) == (tab106 q).q) (T.leaf (Rd.out Ex.ret [D.l (D.L a ++ [[D.i (D.I b)] ++ ([D.i (D.I (List.getD (List.getD (D.L c) (Int.toNat (D.I b)) []) 0 default))] ++ ([D.i (D.I (List.getD (List.getD (D.L c) (Int.toNat (D.I b)) []) (0 + 1) default))] ++ []) ++ []) ++ []]), D.l (D.L c)])) (T.leaf (Rd.again [D.l (D.L a ++ [[D.i (D.I b)] ++ ([D.i (D.I (List.getD (List.getD (D.L c) (Int.toNat (D.I b)) []) 0 default))] ++ ([D.i (D.I (List.getD (List.getD (D.L c) (Int.toNat (D.I b)) []) (0 + 1) default))] ++ []) ++ []) ++ []]), D.i (IntKind.wrap IntKind.i64 (D.I b - (1 : Int))), D.l (D.L c)])))) (T.leaf (Rd.out (Ex.exit 0) [D.l (D.L a), D.l (D.L c)])) := by kernel_rfl
theorem t105 (a : D) : fnTW C tab105 105 s105 [a] =
  T.leaf [D.l (D.L a)] := by kernel_rfl
theorem t104 (a b c d e : D) : fnT C tab104 104 s104 [a, b, c, d, e] =
  T.need (yes (List.length (D.L d) < big)) (T.need (yes (okT (D.I c) ∧ okS (D.I e) ∧ okY (backY (D.L d) (List.length (D.L d))))) (T.leaf [D.i (leavG (D.I c) (backY (D.L d) (List.length (D.L d))) (D.I e))])) := by kernel_rfl
theorem t104_r3 (a b c d e f g h i : D) : roundRT C tab104 104 (rangeOf C.P 104 3) 0 2 [2, 3, 4, 9] h104_3 y106 [a, b, c, d, e, f] [g, h, i] =
  T.ite (decide (IntKind.wrap IntKind.i64 (D.I f + D.I d) > D.I h)) (T.ite (decide (D.I f < D.I i)) (T.leaf (Rd.again [D.i (D.I a), D.i (D.I b), D.i (D.I c), D.i (D.I d), D.l (D.L e), D.i (IntKind.wrap IntKind.i64 (D.I h - D.I d))], [])) (T.leaf (Rd.again [D.i (D.I a), D.i (D.I b), D.i (D.I c), D.i (D.I d), D.l (D.L e), D.i (D.I f)], []))) (T.leaf (Rd.again [D.i (D.I a), D.i (D.I b), D.i (D.I c), D.i (D.I d), D.l (D.L e), D.i (D.I f)], [])) := by kernel_rfl
theorem t103 (q : Nat) (a b c d : D) : fnTY C (tab103 q) 103 s103 [a, b, c, d] =
  T.need (yes (okR (D.L b) ∧ okU (D.I d) ∧ (↑(List.length (D.L b)) : Int) = (↑(List.length (D.L b)) : Int) ∧ (0 : Int) ≤ (0 : Int) ∧ (0 : Int) ≤ (↑(List.length (D.L b)) : Int) ∧ List.length ([] : List (List D)) ≤ q)) (T.ite (decide (q < List.length ([] : List (List D)) + List.length (backF (D.L b) (D.I c) (D.I d) (Int.toNat (0 : Int)) (List.length (D.L b) - Int.toNat (0 : Int))))) (T.leaf ([] ++ List.take (q + 1 - List.length ([] : List (List D))) (backF (D.L b) (D.I c) (D.I d) (Int.toNat (0 : Int)) (List.length (D.L b) - Int.toNat (0 : Int))))) (T.leaf ([] ++ backF (D.L b) (D.I c) (D.I d) (Int.toNat (0 : Int)) (List.length (D.L b) - Int.toNat (0 : Int))))) := by kernel_rfl
theorem t103_1 (q : Nat) (a b c d e f : D) : roundTY C (tab103 q) 103 (loopOf C.P 103 1) 2 l103_1 [a, b, c, d, e, f] =
  T.ite (decide (D.I d < D.I c)) (T.need (decide ((0 : Int) ≤ D.I d ∧ D.I d < (↑(List.length (D.L b)) : Int))) (T.ite (D.I (List.getD (List.getD (D.L b) (Int.toNat (D.I d)) []) (0 + 1) default) == D.I e) (T.need (yes (okT (D.I (List.getD (List.getD (D.L b) (Int.toNat (D.I d)) []) (0 + 1 + 1) default)) ∧ okS (IntKind.wrap IntKind.i64 (IntKind.wrap IntKind.i64 ((0 : Int) - D.I f) - D.I (List.getD (List.getD (D.L b) (Int.toNat (D.I d)) []) (0 + 1 + 1) default))) ∧ okC (D.L (List.getD (List.getD (D.L b) (Int.toNat (D.I d)) []) (0 + 1 + 1 + 1) default)))) (T.ite (!!List.length (D.L a) == (tab103 q).q) (T.leaf (Rd.out Ex.ret [D.l (D.L a ++ [[D.i (D.I (List.getD (List.getD (D.L b) (Int.toNat (D.I d)) []) 0 default))] ++ ([D.i (IntKind.wrap IntKind.i64 ((0 : Int) - leavF (D.L (List.getD (List.getD (D.L b) (Int.toNat (D.I d)) []) (0 + 1 + 1 + 1) default)) (D.I (List.getD (List.getD (D.L b) (Int.toNat (D.I d)) []) (0 + 1 + 1) default)) (List.length (D.L (List.getD (List.getD (D.L b) (Int.toNat (D.I d)) []) (0 + 1 + 1 + 1) default))) (IntKind.wrap IntKind.i64 (IntKind.wrap IntKind.i64 ((0 : Int) - D.I f) - D.I (List.getD (List.getD (D.L b) (Int.toNat (D.I d)) []) (0 + 1 + 1) default)))))] ++ []) ++ [] ++ []]), D.i (D.I e), D.i (D.I f)])) (T.leaf (Rd.again [D.l (D.L a ++ [[D.i (D.I (List.getD (List.getD (D.L b) (Int.toNat (D.I d)) []) 0 default))] ++ ([D.i (IntKind.wrap IntKind.i64 ((0 : Int) - leavF (D.L (List.getD (List.getD (D.L b) (Int.toNat (D.I d)) []) (0 + 1 + 1 + 1) default)) (D.I (List.getD (List.getD (D.L b) (Int.toNat (D.I d)) []) (0 + 1 + 1) default)) (List.length (D.L (List.getD (List.getD (D.L b) (Int.toNat (D.I d)) []) (0 + 1 + 1 + 1) default))) (IntKind.wrap IntKind.i64 (IntKind.wrap IntKind.i64 ((0 : Int) - D.I f) - D.I (List.getD (List.getD (D.L b) (Int.toNat (D.I d)) []) (0 + 1 + 1) default)))))] ++ []) ++ [] ++ []]), D.l (D.L b), D.i (D.I c), D.i (IntKind.wrap IntKind.i64 (D.I d + (1 : Int))), D.i (D.I e), D.i (D.I f)])))) (T.leaf (Rd.again [D.l (D.L a), D.l (D.L b), D.i (D.I c), D.i (IntKind.wrap IntKind.i64 (D.I d + (1 : Int))), D.i (D.I e), D.i (D.I f)])))) (T.leaf (Rd.out (Ex.exit 0) [D.l (D.L a), D.i (D.I e), D.i (D.I f)])) := by kernel_rfl
theorem t102 (a b c d : D) : fnTW C tab102 102 s102 [a, b, c, d] =
  T.leaf [D.i (D.I c), D.l (D.L d), D.i (D.I a), D.i (D.I b)] := by kernel_rfl
theorem t1073 (a b c d e : D) : fnT C tab1073 73 s1073 [a, b, c, d, e] =
  T.need (decide ((0 : Int) ≤ D.I a ∧ D.I a = D.I a ∧ D.I a ≤ (2 : Int) ^ 40 ∧ (↑Try.prog.types[3].bytes : Int) * D.I a ≤ (2 : Int) ^ 46)) (T.need (yes ((↑(List.length (List.replicate (Int.toNat (D.I a)) [D.i (0 : Int)])) : Int) = (↑(Int.toNat (↑(List.length (List.replicate (Int.toNat (D.I a)) [D.i (0 : Int)])) : Int)) : Int) ∧ Int.toNat (↑(List.length (List.replicate (Int.toNat (D.I a)) [D.i (0 : Int)])) : Int) ≤ List.length (List.replicate (Int.toNat (D.I a)) [D.i (0 : Int)]) ∧ (0 : Int) ≤ (0 : Int) ∧ (0 : Int) ≤ (↑(List.length (List.replicate (Int.toNat (D.I a)) [D.i (0 : Int)])) : Int) ∧ (↑(List.length (List.replicate (Int.toNat (D.I a)) [D.i (0 : Int)])) : Int) < (1099511627776 : Int))) (T.need (decide ((0 : Int) ≤ D.I b ∧ D.I b < (↑(Int.toNat (↑(Int.toNat (↑(List.length (List.replicate (Int.toNat (D.I a)) [D.i (0 : Int)])) : Int)) : Int)) : Int))) (T.need (decide (Int.toNat (D.I b) < List.length (fillF (9223372036854775807 : Int) (Int.toNat (0 : Int)) (Int.toNat (↑(List.length (List.replicate (Int.toNat (D.I a)) [D.i (0 : Int)])) : Int) - Int.toNat (0 : Int)) (List.replicate (Int.toNat (D.I a)) [D.i (0 : Int)])))) (T.need (yes (haltB (Int.toNat (↑(Int.toNat (↑(Int.toNat (↑(List.length (List.replicate (Int.toNat (D.I a)) [D.i (0 : Int)])) : Int)) : Int)) : Int)) (D.L e) (mkSr (D.l (List.set (fillF (9223372036854775807 : Int) (Int.toNat (0 : Int)) (Int.toNat (↑(List.length (List.replicate (Int.toNat (D.I a)) [D.i (0 : Int)])) : Int) - Int.toNat (0 : Int)) (List.replicate (Int.toNat (D.I a)) [D.i (0 : Int)])) (Int.toNat (D.I b)) (updC (List.getD (fillF (9223372036854775807 : Int) (Int.toNat (0 : Int)) (Int.toNat (↑(List.length (List.replicate (Int.toNat (D.I a)) [D.i (0 : Int)])) : Int) - Int.toNat (0 : Int)) (List.replicate (Int.toNat (D.I a)) [D.i (0 : Int)])) (Int.toNat (D.I b)) []) [D.i (D.I c)] 0 0 (List.length [K.int IntKind.i64])))) (D.i (↑(List.length [[D.i (D.I b), D.i (D.I c)]]) : Int)) (D.l [[D.i (D.I b), D.i (D.I c)]])))) (T.leaf [D.i (↑(Int.toNat (↑(Int.toNat (↑(Int.toNat (↑(Int.toNat (↑(List.length (List.replicate (Int.toNat (D.I a)) [D.i (0 : Int)])) : Int)) : Int)) : Int)) : Int)) : Int), D.l (resB (Int.toNat (↑(Int.toNat (↑(Int.toNat (↑(List.length (List.replicate (Int.toNat (D.I a)) [D.i (0 : Int)])) : Int)) : Int)) : Int)) (D.L e) (mkSr (D.l (List.set (fillF (9223372036854775807 : Int) (Int.toNat (0 : Int)) (Int.toNat (↑(List.length (List.replicate (Int.toNat (D.I a)) [D.i (0 : Int)])) : Int) - Int.toNat (0 : Int)) (List.replicate (Int.toNat (D.I a)) [D.i (0 : Int)])) (Int.toNat (D.I b)) (updC (List.getD (fillF (9223372036854775807 : Int) (Int.toNat (0 : Int)) (Int.toNat (↑(List.length (List.replicate (Int.toNat (D.I a)) [D.i (0 : Int)])) : Int) - Int.toNat (0 : Int)) (List.replicate (Int.toNat (D.I a)) [D.i (0 : Int)])) (Int.toNat (D.I b)) []) [D.i (D.I c)] 0 0 (List.length [K.int IntKind.i64])))) (D.i (↑(List.length [[D.i (D.I b), D.i (D.I c)]]) : Int)) (D.l [[D.i (D.I b), D.i (D.I c)]])))]))))) := by kernel_rfl
theorem t1073_3 (a b c d e f g h : D) : roundT C tab1073 73 (loopOf C.P 73 3) l1073_3 [a, b, c, d, e, f, g, h] =
  T.ite (decide (D.I d < D.I c)) (T.need (decide ((0 : Int) ≤ D.I d ∧ D.I d < (↑(Int.toNat (D.I g)) : Int))) (T.need (decide (Int.toNat (D.I d) < List.length (D.L h))) (T.leaf (Rd.again [D.i (D.I a), D.l (D.L b), D.i (D.I c), D.i (IntKind.wrap IntKind.i64 (D.I d + (1 : Int))), D.i (D.I e), D.i (D.I f), D.i (↑(Int.toNat (D.I g)) : Int), D.l (List.set (D.L h) (Int.toNat (D.I d)) (updC (List.getD (D.L h) (Int.toNat (D.I d)) []) [D.i (9223372036854775807 : Int)] 0 0 (List.length [K.int IntKind.i64])))])))) (T.leaf (Rd.out (Ex.exit 0) [D.i (D.I a), D.l (D.L b), D.i (D.I e), D.i (D.I f), D.i (↑(Int.toNat (D.I g)) : Int), D.l (D.L h)])) := by kernel_rfl
theorem t1073_9 (a b c d e f : D) : roundT C tab1073 73 (loopOf C.P 73 9) l1073_9 [a, b, c, d, e, f] =
  T.need (decide (Int.toNat (D.I e) ≤ List.length (D.L f))) (T.ite (decide ((↑(List.length (List.take (Int.toNat (D.I e)) (D.L f))) : Int) > (0 : Int))) (T.need (yes (1 ≤ Int.toNat (↑(Int.toNat (D.I e)) : Int) ∧ Int.toNat (↑(Int.toNat (D.I e)) : Int) ≤ List.length (D.L f) ∧ Int.toNat (↑(Int.toNat (D.I e)) : Int) < 1099511627776)) (T.need (decide ((0 : Int) ≤ ix (List.getD (popR (D.L f) (Int.toNat (↑(Int.toNat (D.I e)) : Int))) (Int.toNat (↑(Int.toNat (D.I e)) : Int) - 1) []) 0 ∧ ix (List.getD (popR (D.L f) (Int.toNat (↑(Int.toNat (D.I e)) : Int))) (Int.toNat (↑(Int.toNat (D.I e)) : Int) - 1) []) 0 < (↑(Int.toNat (D.I c)) : Int))) (T.need (decide (Int.toNat (ix (List.getD (popR (D.L f) (Int.toNat (↑(Int.toNat (D.I e)) : Int))) (Int.toNat (↑(Int.toNat (D.I e)) : Int) - 1) []) 0) < List.length (D.L d))) (T.ite (decide (ix (List.getD (popR (D.L f) (Int.toNat (↑(Int.toNat (D.I e)) : Int))) (Int.toNat (↑(Int.toNat (D.I e)) : Int) - 1) []) 1 > D.I (List.getD (List.getD (D.L d) (Int.toNat (ix (List.getD (popR (D.L f) (Int.toNat (↑(Int.toNat (D.I e)) : Int))) (Int.toNat (↑(Int.toNat (D.I e)) : Int) - 1) []) 0)) []) 0 default))) (T.leaf (Rd.again [D.i (D.I a), D.l (D.L b), D.i (↑(Int.toNat (D.I c)) : Int), D.l (D.L d), D.i (↑(Int.toNat (↑(Int.toNat (↑(Int.toNat (D.I e)) : Int) - 1) : Int)) : Int), D.l (popR (D.L f) (Int.toNat (↑(Int.toNat (D.I e)) : Int)))])) (T.need (yes (okR (D.L b) ∧ okU (ix (List.getD (popR (D.L f) (Int.toNat (↑(Int.toNat (D.I e)) : Int))) (Int.toNat (↑(Int.toNat (D.I e)) : Int) - 1) []) 1))) (T.need (yes (Int.toNat (↑(Int.toNat (D.I c)) : Int) ≤ List.length (D.L d) ∧ Int.toNat (↑(Int.toNat (↑(Int.toNat (↑(Int.toNat (D.I e)) : Int) - 1) : Int)) : Int) ≤ List.length (popR (D.L f) (Int.toNat (↑(Int.toNat (D.I e)) : Int))) ∧ Int.toNat (↑(Int.toNat (↑(Int.toNat (↑(Int.toNat (D.I e)) : Int) - 1) : Int)) : Int) + List.length (backF (D.L b) (ix (List.getD (popR (D.L f) (Int.toNat (↑(Int.toNat (D.I e)) : Int))) (Int.toNat (↑(Int.toNat (D.I e)) : Int) - 1) []) 0) (ix (List.getD (popR (D.L f) (Int.toNat (↑(Int.toNat (D.I e)) : Int))) (Int.toNat (↑(Int.toNat (D.I e)) : Int) - 1) []) 1) 0 (List.length (D.L b))) < 549755813888 ∧ ∀ (e_1 : List D), e_1 ∈ backF (D.L b) (ix (List.getD (popR (D.L f) (Int.toNat (↑(Int.toNat (D.I e)) : Int))) (Int.toNat (↑(Int.toNat (D.I e)) : Int) - 1) []) 0) (ix (List.getD (popR (D.L f) (Int.toNat (↑(Int.toNat (D.I e)) : Int))) (Int.toNat (↑(Int.toNat (D.I e)) : Int) - 1) []) 1) 0 (List.length (D.L b)) → (0 : Int) ≤ ix e_1 0 ∧ ix e_1 0 < (↑(Int.toNat (↑(Int.toNat (D.I c)) : Int)) : Int))) (T.leaf (Rd.again [D.i (D.I a), D.l (D.L b), D.i (↑(Int.toNat (↑(Int.toNat (↑(Int.toNat (D.I c)) : Int)) : Int)) : Int), D.l (relF (backF (D.L b) (ix (List.getD (popR (D.L f) (Int.toNat (↑(Int.toNat (D.I e)) : Int))) (Int.toNat (↑(Int.toNat (D.I e)) : Int) - 1) []) 0) (ix (List.getD (popR (D.L f) (Int.toNat (↑(Int.toNat (D.I e)) : Int))) (Int.toNat (↑(Int.toNat (D.I e)) : Int) - 1) []) 1) 0 (List.length (D.L b))) (mkSr (D.l (D.L d)) (D.i (↑(Int.toNat (↑(Int.toNat (↑(Int.toNat (D.I e)) : Int) - 1) : Int)) : Int)) (D.l (popR (D.L f) (Int.toNat (↑(Int.toNat (D.I e)) : Int)))))).o, D.i (↑(Int.toNat (↑(relF (backF (D.L b) (ix (List.getD (popR (D.L f) (Int.toNat (↑(Int.toNat (D.I e)) : Int))) (Int.toNat (↑(Int.toNat (D.I e)) : Int) - 1) []) 0) (ix (List.getD (popR (D.L f) (Int.toNat (↑(Int.toNat (D.I e)) : Int))) (Int.toNat (↑(Int.toNat (D.I e)) : Int) - 1) []) 1) 0 (List.length (D.L b))) (mkSr (D.l (D.L d)) (D.i (↑(Int.toNat (↑(Int.toNat (↑(Int.toNat (D.I e)) : Int) - 1) : Int)) : Int)) (D.l (popR (D.L f) (Int.toNat (↑(Int.toNat (D.I e)) : Int)))))).k : Int)) : Int), D.l (relF (backF (D.L b) (ix (List.getD (popR (D.L f) (Int.toNat (↑(Int.toNat (D.I e)) : Int))) (Int.toNat (↑(Int.toNat (D.I e)) : Int) - 1) []) 0) (ix (List.getD (popR (D.L f) (Int.toNat (↑(Int.toNat (D.I e)) : Int))) (Int.toNat (↑(Int.toNat (D.I e)) : Int) - 1) []) 1) 0 (List.length (D.L b))) (mkSr (D.l (D.L d)) (D.i (↑(Int.toNat (↑(Int.toNat (↑(Int.toNat (D.I e)) : Int) - 1) : Int)) : Int)) (D.l (popR (D.L f) (Int.toNat (↑(Int.toNat (D.I e)) : Int)))))).q])))))))) (T.leaf (Rd.out (Ex.exit 2) [D.i (↑(Int.toNat (D.I c)) : Int), D.l (D.L d)]))) := by kernel_rfl
theorem t1073_r14 (a b c d e f g h i j : D) : roundRT C tab1073 73 (rangeOf C.P 73 14) 0 5 [2, 6, 7, 9, 51] h1073_14 y103 [a, b, c, d, e, f, g, h] [i, j] =
  T.need (decide ((0 : Int) ≤ D.I i ∧ D.I i < (↑(Int.toNat (D.I e)) : Int))) (T.need (decide (Int.toNat (D.I i) < List.length (D.L f))) (T.ite (decide (D.I j < D.I (List.getD (List.getD (D.L f) (Int.toNat (D.I i)) []) 0 default))) (T.need (decide ((0 : Int) ≤ D.I i ∧ D.I i < (↑(Int.toNat (D.I e)) : Int))) (T.need (decide (Int.toNat (D.I i) < List.length (D.L f))) (T.need (yes (Int.toNat (↑(Int.toNat (D.I g)) : Int) ≤ List.length (D.L h) ∧ Int.toNat (↑(Int.toNat (D.I g)) : Int) < 1099511627776)) (T.leaf (Rd.again [D.i (D.I a), D.l (D.L b), D.i (D.I c), D.l (D.L d), D.i (↑(Int.toNat (D.I e)) : Int), D.l (List.set (D.L f) (Int.toNat (D.I i)) (updC (List.getD (D.L f) (Int.toNat (D.I i)) []) [D.i (D.I j)] 0 0 (List.length [K.int IntKind.i64]))), D.i (↑(Int.toNat (↑(Int.toNat (↑(Int.toNat (D.I g)) : Int) + 1) : Int)) : Int), D.l (pushR (D.L h) (Int.toNat (↑(Int.toNat (D.I g)) : Int)) (D.I i) (D.I j))], []))))) (T.leaf (Rd.again [D.i (D.I a), D.l (D.L b), D.i (D.I c), D.l (D.L d), D.i (↑(Int.toNat (D.I e)) : Int), D.l (D.L f), D.i (↑(Int.toNat (D.I g)) : Int), D.l (D.L h)], [])))) := by kernel_rfl
theorem t97 (a b c d : D) : fnT C tab97 97 s97 [a, b, c, d] =
  T.need (yes ((0 : Int) ≤ D.I a ∧ D.I a < (1099511627776 : Int) ∧ (0 : Int) ≤ D.I c ∧ D.I c < D.I a ∧ haltB (Int.toNat (D.I a)) (D.L b) (startS (D.I a) (D.I c) (IntKind.wrap IntKind.i64 ((0 : Int) - D.I d))))) (T.need (yes ((↑(Int.toNat (D.I a)) : Int) = (↑(Int.toNat (↑(Int.toNat (D.I a)) : Int)) : Int) ∧ Int.toNat (↑(Int.toNat (D.I a)) : Int) ≤ List.length (resB (Int.toNat (D.I a)) (D.L b) (startS (D.I a) (D.I c) (IntKind.wrap IntKind.i64 ((0 : Int) - D.I d)))) ∧ (0 : Int) ≤ (0 : Int) ∧ (0 : Int) ≤ (↑(Int.toNat (D.I a)) : Int) ∧ (↑(Int.toNat (D.I a)) : Int) < (1099511627776 : Int) ∧ okN (resB (Int.toNat (D.I a)) (D.L b) (startS (D.I a) (D.I c) (IntKind.wrap IntKind.i64 ((0 : Int) - D.I d)))))) (T.leaf [D.i (↑(Int.toNat (↑(Int.toNat (↑(Int.toNat (D.I a)) : Int)) : Int)) : Int), D.l (negF (Int.toNat (0 : Int)) (Int.toNat (↑(Int.toNat (D.I a)) : Int) - Int.toNat (0 : Int)) (resB (Int.toNat (D.I a)) (D.L b) (startS (D.I a) (D.I c) (IntKind.wrap IntKind.i64 ((0 : Int) - D.I d)))))])) := by kernel_rfl
theorem t97_3 (a b c d : D) : roundT C tab97 97 (loopOf C.P 97 3) l97_3 [a, b, c, d] =
  T.ite (decide (D.I c < D.I b)) (T.need (decide ((0 : Int) ≤ D.I c ∧ D.I c < (↑(Int.toNat (D.I a)) : Int))) (T.need (decide (Int.toNat (D.I c) < List.length (D.L d))) (T.need (decide ((0 : Int) ≤ D.I c ∧ D.I c < (↑(Int.toNat (D.I a)) : Int))) (T.need (decide (Int.toNat (D.I c) < List.length (D.L d))) (T.leaf (Rd.again [D.i (↑(Int.toNat (D.I a)) : Int), D.i (D.I b), D.i (IntKind.wrap IntKind.i64 (D.I c + (1 : Int))), D.l (List.set (D.L d) (Int.toNat (D.I c)) (updC (List.getD (D.L d) (Int.toNat (D.I c)) []) [D.i (IntKind.wrap IntKind.i64 ((0 : Int) - D.I (List.getD (List.getD (D.L d) (Int.toNat (D.I c)) []) 0 default)))] 0 0 (List.length [K.int IntKind.i64])))])))))) (T.leaf (Rd.out (Ex.exit 0) [D.i (↑(Int.toNat (D.I a)) : Int), D.l (D.L d)])) := by kernel_rfl
end Go.Proofs.Ytgmefblkmidglaa
namespace Go.Proofs.Ytgmefblkmidglaa
open Go.Lite
set_option maxRecDepth 100000
set_option linter.unusedVariables false
theorem backY_len (l : List (List D)) : ∀ k, (backY l k).length = k
  | 0 => rfl
  | k + 1 => by simp only [backY, List.length_cons, backY_len l k]
theorem leavG_back {l : List (List D)} {c : Int} : ∀ (k : Nat) (s : Int), leavG c (backY l k) s = leavF l c k s
  | 0, _ => rfl
  | k + 1, s => leavG_back k _
theorem okY_back {l : List (List D)} (h : okC l) : ∀ k, okY (backY l k)
  | 0 => fun e he => by cases he
  | k + 1 => fun e he => by
    simp only [backY] at he
    rcases List.mem_cons.1 he with rfl | he
    · exact h.2 k
    · exact okY_back h k e he
theorem leavF_okS {l : List (List D)} {c : Int} (hc : okT c) (hl : okC l) : ∀ (k : Nat) (s : Int), okS s → okS (leavF l c k s)
  | 0, _, h => h
  | k + 1, s, h => by
    simp only [leavF]
    refine leavF_okS hc hl k _ ?_
    have := hl.2 k
    unfold okS okT at *
    split <;> omega
theorem ok106_1 (q n : Nat) : LoopSimY C n 1 106 (loopOf C.P 106 1) (some y106) q (mkLY 1 l106_1 (G106_1 q)) := by
  refine loop_ofY hC (sp := sp106) (lp := lp106 q) (sw := sw106) (Y := y106) (yOK_mk _ _ _) trivial trivial 1 [] (by kernel_rfl) rfl (by kernel_rfl) (fun k hk => by cases hk) (by kernel_rfl) (fun ds => ((ds.getD 1 default).I + 1).toNat) fun ds rr h => ?_
  unfold G106_1 at h
  split at h
  · rename_i g i l
    obtain ⟨hp, h⟩ := need_some h
    rw [yes_iff] at hp
    obtain ⟨hl, hi0, hi1, hg⟩ := hp
    have hb := big_eq
    refine ⟨by rw [fuelC]; simp; omega, ?_⟩
    rw [show roundTY C (mkTabY sp106 (lp106 q) sw106 y106 q) 106 (loopOf C.P 106 1) 1 l106_1 [g, i, l] = _ from t106_1 q g i l]
    have hq : (tab106 q).q = q := rfl
    simp only [ix_def, Nat.reduceAdd, hq]
    refine rd_if (fun hge => ?_) fun hlt => ?_
    · obtain ⟨k, hk⟩ : ∃ k : Nat, i.I = k := ⟨i.I.toNat, by omega⟩
      have e1 : (i.I + 1).toNat = k + 1 := by omega
      rw [e1] at h
      simp only [backY] at h
      simp only [hk, Int.toNat_natCast] at hi1 ⊢
      rw [wrap_pred (by omega)]
      refine rd_dec (by omega) (rd_ite (fun c2 => ?_) fun c2 => ?_)
      · rw [Bool.not_not] at c2
        have c2 : g.L.length = q := by simpa using c2
        rw [run_ite, if_pos (by simp; omega)] at h
        rw [show q + 1 - g.L.length = 1 by omega] at h
        exact rd_out h
      · rw [Bool.not_not] at c2
        have c2 : g.L.length ≠ q := by
          have : ¬ (g.L.length == q) = true := by rw [show (g.L.length == q) = false from c2]; simp
          simpa using this
        refine rd_again ((need_yes ⟨hl, by simp only [I_i]; omega, by simp only [I_i, L_l]; omega, by simp only [L_l, List.length_append, List.length_cons, List.length_nil]; omega⟩).trans ?_) (show ((k : Int) - 1 + 1).toNat < (i.I + 1).toNat by omega)
        simp only [I_i, L_l, show ((k : Int) - 1 + 1).toNat = k by omega, List.length_append, List.length_cons, List.length_nil, List.append_nil, List.append_assoc, List.cons_append, List.nil_append]
        rw [show q + 1 - g.L.length = (q + 1 - (g.L.length + (0 + 1))) + 1 by omega, List.take_succ_cons] at h
        rw [show g.L.length + (0 + 1) + k = g.L.length + (k + 1) by omega]
        exact h
    · rw [show (i.I + 1).toNat = 0 by omega] at h
      simp only [backY, List.append_nil] at h
      rw [run_ite] at h
      split at h
      · rename_i hc
        have := of_decide_eq_true hc
        omega
      · exact rd_out h
  · cases h
theorem ok106 (n : Nat) : IterOK C (n + 1) 106 y106 (mkFY s106 G106) := by
  refine iter_of hC (sp := sp106) (lp := lp106) (sw := sw106) (Y := y106) (yOK_mk _ _ _) trivial trivial (by kernel_rfl) [1] (by kernel_rfl) (by kernel_rfl) (by kernel_rfl) (fun q k hk L hL => by
    simp at hk; subst hk; cases hL; exact ok106_1 q n) fun ds L h q => ?_
  unfold G106 at h
  split at h
  · rename_i l
    obtain ⟨hp, h⟩ := need_some h
    rw [yes_iff] at hp
    cases h
    have hb := big_eq
    have hw : IntKind.i64.wrap ((l.L.length : Int) - 1) = (l.L.length : Int) - 1 := wrap_pred (by omega)
    refine (congrArg T.run (t106 q l)).trans ?_
    rw [hw, show ((l.L.length : Int) - 1 + 1).toNat = l.L.length by omega]
    have hbl := backY_len l.L l.L.length
    refine go_yes ⟨hp, by omega, by omega, by simp⟩ (go_if (fun c => ?_) fun c => ?_)
    · simp only [List.nil_append, List.length_nil, Nat.sub_zero, run_leaf]
    · have c : ¬ q < l.L.length := fun h => c (by simpa using h)
      simp only [List.nil_append, run_leaf]
      rw [List.take_of_length_le (by omega)]
  · cases h
theorem ok105 (n : Nat) : FnOKW C (n + 1) 105 (mkFW s105 G105) := by
  refine fn_ofW hC (sp := sp105) (lp := lp105) (sw := sw105) trivial trivial (by kernel_rfl) [] (by kernel_rfl) rfl (fun k hk => by cases hk) fun ds r h => ?_
  unfold G105 at h
  split at h
  · rename_i l
    exact (congrArg T.run (t105 l)).trans h
  · cases h
theorem head106 (e : List D) : y106.head e = y106.head [e.getD 0 default, e.getD 1 default, e.getD 2 default] := by
  match e with
  | [] => rfl
  | [_] => rfl
  | [_, _] => rfl
  | _ :: _ :: _ :: _ => rfl
theorem fold104 (L : List (List D)) : ∀ (ds : List D) (rr : Ex × List D), (G104_3 L ds).run = some rr → FoldR (fun ds el => (roundRT C tab104 104 (rangeOf C.P 104 3) 0 2 [2, 3, 4, 9] h104_3 y106 ds el).run) y106.give (fun a b => headA h104_3 a = headA h104_3 b) ds L rr.1 rr.2 := by
  induction L with
  | nil =>
    intro ds rr h
    unfold G104_3 at h
    split at h
    · rename_i z a b c l s
      obtain ⟨-, h⟩ := need_some h
      cases h
      exact .nil (by rfl)
    · cases h
  | cons e es ih =>
    intro ds rr h
    unfold G104_3 at h
    split at h
    · rename_i z a b c l s
      obtain ⟨hp, h⟩ := need_some h
      rw [yes_iff] at hp
      obtain ⟨hc, hs, hY⟩ := hp
      have he := hY e List.mem_cons_self
      have hes : okY es := fun x hx => hY x (List.mem_cons_of_mem _ hx)
      simp only [leavG] at h
      have key : ∀ (i j k : D), j.I = ix e 1 → k.I = ix e 2 → ∃ ds', (roundRT C tab104 104 (rangeOf C.P 104 3) 0 2 [2, 3, 4, 9] h104_3 y106 [z, a, b, c, l, s] [i, j, k]).run = some (.again ds', []) ∧ (G104_3 es ds').run = some rr := by
        intro i j k hj hk
        have ht := congrArg T.run (t104_r3 z a b c l s i j k)
        rw [ht]
        have hnext : ∀ x, okS x → (if s.I + c.I > ix e 1 ∧ s.I < ix e 2 then ix e 1 - c.I else s.I) = x → (G104_3 es [.i z.I, .i a.I, .i b.I, .i c.I, .l l.L, .i x]).run = some rr := fun x hx hxe => by
          refine (need_yes ⟨hc, hx, hes⟩).trans ?_
          rw [hxe] at h
          exact h
        unfold okS at hs hnext
        unfold okT at hc
        rw [wrap_id (x := s.I + c.I) (by omega) (by omega), hj, hk, wrap_id (x := ix e 1 - c.I) (by omega) (by omega)]
        by_cases c1 : s.I + c.I > ix e 1
        · by_cases c2 : s.I < ix e 2
          · exact ⟨_, go_pos c1 (go_pos c2 rfl), hnext _ (by omega) (if_pos ⟨c1, c2⟩)⟩
          · exact ⟨_, go_pos c1 (go_neg c2 rfl), hnext _ (by omega) (if_neg fun hh => c2 hh.2)⟩
        · exact ⟨_, go_neg c1 rfl, hnext _ (by omega) (if_neg fun hh => c1 hh.1)⟩
      obtain ⟨ds', k1, k2⟩ := key (e.getD 0 default) (e.getD 1 default) (e.getD 2 default) rfl rfl
      refine .again (x' := []) (ds' := ds') ?_ (fun h => by cases h) (ih _ _ k2)
      have : roundRT C tab104 104 (rangeOf C.P 104 3) 0 2 [2, 3, 4, 9] h104_3 y106 [z, a, b, c, l, s] e = roundRT C tab104 104 (rangeOf C.P 104 3) 0 2 [2, 3, 4, 9] h104_3 y106 [z, a, b, c, l, s] [e.getD 0 default, e.getD 1 default, e.getD 2 default] := by
        unfold roundRT
        rw [head106 e]
      rw [this]
      exact k1
    · cases h
theorem ok104_3 (n : Nat) : CodeSim C (n + 1) 0 104 (rangeOf C.P 104 3).code none 0 (rangeS 0 [2, 3, 4, 9] (rangeOf C.P 104 3).1 it104_3 h104_3 G104_3) :=
  range_of hC (sp := sp104) (lp := lp104) (sw := sw104) (rg := rg104) (Y := y106) (yOK_mk _ _ _) trivial ⟨ok105 n, trivial⟩ 3 0 2 [] (by kernel_rfl) rfl (by kernel_rfl) (by exact ⟨by kernel_rfl, by kernel_rfl⟩) (fun k hk => by cases hk)
    (by kernel_rfl) (by kernel_rfl) (it := it104_3) ⟨ok106 n, trivial⟩ fun L ds rr h => fold104 L ds rr h
theorem ok104 (n : Nat) : FnOK C (n + 2) 104 (mkF s104 G104) := by
  refine fn_ofR hC (sp := sp104) (lp := lp104) (sw := sw104) (rg := rg104) trivial ⟨ok105 n, trivial⟩ (by kernel_rfl) [] [3] (by kernel_rfl) rfl (by kernel_rfl) (by kernel_rfl) (fun k hk => by cases hk) (fun k hk L hL => by
    simp at hk; subst hk; cases hL; exact ok104_3 n) fun ds r h => ?_
  unfold G104 at h
  split at h
  · rename_i a b c l s
    obtain ⟨hp, h⟩ := need_some h
    rw [yes_iff] at hp
    refine (congrArg T.run (t104 a b c l s)).trans ?_
    rw [leavG_back]
    exact go_yes hp.2.2.1 (go_yes ⟨hp.1, hp.2.1, okY_back hp.2.2 _⟩ h)
  · cases h
theorem backF_step {r : List (List D)} {v t : Int} {j : Nat} (hj : j < r.length) : backF r v t j (r.length - j) = if ix (r.getD j []) 1 = v then [.i (ix (r.getD j []) 0), .i (-(leaW (r.getD j []) (-t - ix (r.getD j []) 2)))] :: backF r v t (j + 1) (r.length - (j + 1)) else backF r v t (j + 1) (r.length - (j + 1)) := by
  rw [show r.length - j = (r.length - (j + 1)) + 1 by omega]
  rfl
theorem ok103_1 (q n : Nat) : LoopSimY C (n + 2) 2 103 (loopOf C.P 103 1) (some y103) q (mkLY 2 l103_1 (G103_1 q)) := by
  refine loop_ofY hC (sp := sp103) (lp := lp103 q) (sw := sw103) (Y := y103) (yOK_mk _ _ _) ⟨ok104 n, trivial⟩ trivial 2 [] (by kernel_rfl) rfl (by kernel_rfl) (fun k hk => by cases hk) (by kernel_rfl) (fun ds => ((ds.getD 2 default).I - (ds.getD 3 default).I).toNat) fun ds rr h => ?_
  unfold G103_1 at h
  split at h
  · rename_i g r m i v t
    obtain ⟨hp, h⟩ := need_some h
    rw [yes_iff] at hp
    obtain ⟨hr, ht, hm, hi0, hi1, hg⟩ := hp
    have hrl := hr.1
    refine ⟨by rw [fuelC]; simp; omega, ?_⟩
    rw [show roundTY C (mkTabY sp103 (lp103 q) sw103 y103 q) 103 (loopOf C.P 103 1) 2 l103_1 [g, r, m, i, v, t] = _ from t103_1 q g r m i v t]
    obtain ⟨j, hj⟩ : ∃ j : Nat, i.I = j := ⟨i.I.toNat, by omega⟩
    have hq : (tab103 q).q = q := rfl
    simp only [hj, hm, Int.toNat_natCast, ix_def, lx_def, Nat.reduceAdd, hq] at h hi0 hi1 ⊢
    have hnext : ∀ {G' : List (List D)}, G'.length ≤ q → ((T.ite (decide (q < G'.length + (backF r.L v.I t.I (j + 1) (r.L.length - (j + 1))).length)) (T.leaf (Ex.ret, [D.l (G' ++ (backF r.L v.I t.I (j + 1) (r.L.length - (j + 1))).take (q + 1 - G'.length)), D.i v.I, D.i t.I]))
        (T.leaf (Ex.exit 0, [D.l (G' ++ backF r.L v.I t.I (j + 1) (r.L.length - (j + 1))), D.i v.I, D.i t.I]))).run = some rr) → j < r.L.length → (G103_1 q [D.l G', D.l r.L, D.i (r.L.length : Int), D.i ((j + 1 : Nat) : Int), D.i v.I, D.i t.I]).run = some rr := fun {G'} hG' h hlt => by
      refine (need_yes ⟨hr, ht, by simp only [I_i, L_l], by simp only [I_i]; omega, by simp only [I_i, L_l]; omega, hG'⟩).trans ?_
      simp only [I_i, L_l, Int.toNat_natCast]
      exact h
    have hmu : j < r.L.length → ((r.L.length : Int) - ((j + 1 : Nat) : Int)).toNat < (m.I - i.I).toNat := fun _ => by rw [hj, hm]; omega
    refine rd_if (fun hlt => ?_) fun hge => ?_
    · have hlt : j < r.L.length := by omega
      rw [backF_step hlt] at h
      obtain ⟨hs, hc⟩ := hr.2 j hlt
      have ht2 : okS (-t.I - ix (r.L.getD j []) 2) := by unfold okU okT okS at *; omega
      have he := leavF_okS hs hc (lx (r.L.getD j []) 3).length _ ht2
      unfold okS at he ht2
      unfold okT at hs
      have hw1 : IntKind.i64.wrap (0 - t.I) = -t.I := by rw [Int.zero_sub]; unfold okU at ht; exact wrap_id (by omega) (by omega)
      rw [wrap_succ (by omega), hw1, wrap_id (x := -t.I - ix (r.L.getD j []) 2) (by omega) (by omega), Int.zero_sub]
      refine rd_dec (by omega) (rd_ite (fun c1 => ?_) fun c1 => ?_)
      · rw [beq_iff_eq] at c1
        rw [if_pos c1] at h
        simp only [List.length_cons] at h
        rw [wrap_id (x := -(leavF _ _ _ _)) (by omega) (by omega)]
        refine rd_yes ⟨hs, ht2, hc⟩ (rd_ite (fun c2 => ?_) fun c2 => ?_)
        · rw [Bool.not_not] at c2
          have c2 : g.L.length = q := by simpa using c2
          rw [run_ite, if_pos (by simp; omega)] at h
          rw [show q + 1 - g.L.length = 1 by omega] at h
          exact rd_out h
        · rw [Bool.not_not] at c2
          have c2 : g.L.length ≠ q := by
            have : ¬ (g.L.length == q) = true := by rw [show (g.L.length == q) = false from c2]; simp
            simpa using this
          refine rd_again (hnext (by simp; omega) ?_ hlt) (hmu hlt)
          simp only [List.length_append, List.length_cons, List.length_nil, List.append_nil, List.append_assoc, List.cons_append, List.nil_append]
          rw [show q + 1 - g.L.length = (q + 1 - (g.L.length + (0 + 1))) + 1 by omega, List.take_succ_cons] at h
          rw [show g.L.length + (0 + 1) + (backF r.L v.I t.I (j + 1) (r.L.length - (j + 1))).length = g.L.length + ((backF r.L v.I t.I (j + 1) (r.L.length - (j + 1))).length + 1) by omega]
          exact h
      · rw [beq_eq_false_iff_ne] at c1
        rw [if_neg c1] at h
        exact rd_again (hnext hg h hlt) (hmu hlt)
    · rw [show r.L.length - j = 0 by omega] at h
      simp only [backF, List.length_nil, List.append_nil] at h
      rw [run_ite] at h
      split at h
      · rename_i hc
        have := of_decide_eq_true hc
        omega
      · exact rd_out h
  · cases h
theorem ok103 (n : Nat) : IterOK C (n + 3) 103 y103 (mkFY s103 G103) := by
  refine iter_of hC (sp := sp103) (lp := lp103) (sw := sw103) (Y := y103) (yOK_mk _ _ _) ⟨ok104 n, trivial⟩ trivial (by kernel_rfl) [1] (by kernel_rfl) (by kernel_rfl) (by kernel_rfl) (fun q k hk L hL => by
    simp at hk; subst hk; cases hL; exact ok103_1 q n) fun ds L h q => ?_
  unfold G103 at h
  split at h
  · rename_i n' r v t
    obtain ⟨hp, h⟩ := need_some h
    rw [yes_iff] at hp
    cases h
    refine (congrArg T.run (t103 q n' r v t)).trans (go_yes ⟨hp.1, hp.2, rfl, by omega, by omega, by simp⟩ (go_if (fun c => ?_) fun c => ?_))
    · simp only [List.nil_append, List.length_nil, Nat.sub_zero, run_leaf]
      rfl
    · have c : ¬ q < (backF r.L v.I t.I 0 r.L.length).length := fun h => c (by simpa using h)
      simp only [List.nil_append, run_leaf]
      rw [List.take_of_length_le (by omega)]
      rfl
  · cases h
theorem ok102 (n : Nat) : FnOKW C (n + 1) 102 (mkFW s102 G102) := by
  refine fn_ofW hC (sp := sp102) (lp := lp102) (sw := sw102) trivial trivial (by kernel_rfl) [] (by kernel_rfl) rfl (fun k hk => by cases hk) fun ds r h => ?_
  unfold G102 at h
  split at h
  · rename_i v t m l
    exact (congrArg T.run (t102 v t m l)).trans h
  · cases h
theorem ok1073_3 (n : Nat) : LoopSim C (n + 4) 73 (loopOf C.P 73 3) (mkL l1073_3 G1073_3) := by
  refine loop_ofR hC (sp := sp1073) (lp := lp1073) (sw := sw1073) (rg := rg1073) ⟨ok123 (n + 3), trivial⟩ ⟨ok93 (n + 1), ok102 (n + 3), ok127 n, trivial⟩ 0 [] [] (by kernel_rfl) rfl (by kernel_rfl) rfl (fun k hk => by cases hk) (fun k hk => by cases hk) (by kernel_rfl) (fun ds => ((ds.getD 2 default).I - (ds.getD 3 default).I).toNat) fun ds rr h => ?_
  unfold G1073_3 G73_3 at h
  split at h
  · rename_i a r m i x y k l
    obtain ⟨hp, h⟩ := need_some h
    rw [yes_iff] at hp
    obtain ⟨hm, hk, hi0, hi1, hm2⟩ := hp
    refine ⟨by rw [fuelC]; simp; omega, ?_⟩
    rw [show roundTK C (mkTabR sp1073 lp1073 sw1073 rg1073) 73 (loopOf C.P 73 3) 0 l1073_3 [a, r, m, i, x, y, k, l] = _ from t1073_3 a r m i x y k l]
    obtain ⟨j, hj⟩ : ∃ j : Nat, i.I = j := ⟨i.I.toNat, by omega⟩
    simp only [hj, hm, Int.toNat_natCast, upd1, rs_def] at h hi0 hi1 hm2 ⊢
    refine rd_if (fun hlt => ?_) fun hge => ?_
    · rw [wrap_succ (by omega)]
      rw [show k.I.toNat - j = (k.I.toNat - (j + 1)) + 1 by omega] at h
      refine rd_dec (by omega) (rd_dec (by omega) (rd_again ((need_yes ⟨by simp only [I_i, Int.toNat_natCast], by simp only [I_i, L_l, Int.toNat_natCast, len_rs]; exact hk, by simp only [I_i]; omega, by simp only [I_i]; omega, by simp only [I_i]; omega⟩).trans ?_) ?_))
      · simp only [I_i, L_l, Int.toNat_natCast]
        exact h
      · show ((k.I.toNat : Int) - ((j + 1 : Nat) : Int)).toNat < (m.I - i.I).toNat
        rw [hj, hm]; omega
    · rw [show k.I.toNat - j = 0 by omega] at h
      exact rd_out h
  · cases h
theorem head103 (e : List D) : y103.head e = y103.head [e.getD 0 default, e.getD 1 default] := by
  match e with
  | [] => rfl
  | [_] => rfl
  | _ :: _ :: _ => rfl
theorem fold1073 (L : List (List D)) : ∀ (ds : List D) (rr : Ex × List D), (G1073_14 L ds).run = some rr → FoldR (fun ds el => (roundRT C tab1073 73 (rangeOf C.P 73 14) 0 5 [2, 6, 7, 9, 51] h1073_14 y103 ds el).run) y103.give (fun a b => headA h1073_14 a = headA h1073_14 b) ds L rr.1 rr.2 := by
  induction L with
  | nil =>
    intro ds rr h
    unfold G1073_14 G73_14 at h
    split at h
    · rename_i a r a' r' m o k q
      obtain ⟨-, h⟩ := need_some h
      cases h
      exact .nil (by rfl)
    · cases h
  | cons e es ih =>
    intro ds rr h
    unfold G1073_14 G73_14 at h
    split at h
    · rename_i a r a' r' m o k q
      obtain ⟨hp, h⟩ := need_some h
      rw [yes_iff] at hp
      obtain ⟨h1, h2, h3, h4⟩ := hp
      simp only [List.length_cons] at h3
      obtain ⟨e1, e2⟩ := h4 e List.mem_cons_self
      have h5 : ∀ x ∈ es, 0 ≤ ix x 0 ∧ ix x 0 < (m.I.toNat : Int) := fun x hx => h4 x (List.mem_cons_of_mem _ hx)
      have key : ∀ (i j : D), i.I = ix e 0 → j.I = ix e 1 → ∃ ds', (roundRT C tab1073 73 (rangeOf C.P 73 14) 0 5 [2, 6, 7, 9, 51] h1073_14 y103 [a, r, a', r', m, o, k, q] [i, j]).run = some (.again ds', []) ∧ (G1073_14 es ds').run = some rr := by
        intro i j hi hj
        have ht := congrArg T.run (t1073_r14 a r a' r' m o k q i j)
        rw [ht]
        simp only [hi, hj, Int.toNat_natCast, upd1, rs_def, rg_def]
        by_cases hc : ix e 1 < rg o.L (ix e 0).toNat
        · have hrel : relF (e :: es) (mkSr o k q) = relF es ⟨rs o.L (ix e 0).toNat (ix e 1), k.I.toNat + 1, pushR q.L k.I.toNat (ix e 0) (ix e 1)⟩ := by
            simp only [relF]
            exact if_pos hc
          rw [hrel] at h
          refine ⟨_, go_dec ⟨e1, e2⟩ (go_dec (by omega) (go_pos hc (go_dec ⟨e1, e2⟩ (go_dec (by omega) (go_yes ⟨h2, by omega⟩ rfl))))), ?_⟩
          refine (need_yes ⟨by simp only [I_i, L_l, Int.toNat_natCast, len_rs]; exact h1, by simp only [I_i, L_l, Int.toNat_natCast]; rw [len_push _ _ _ h2]; exact Nat.le_refl _, by simp only [I_i, Int.toNat_natCast]; omega, by simp only [I_i, Int.toNat_natCast]; exact h5⟩).trans ?_
          simp only [mkSr, I_i, L_l, Int.toNat_natCast]
          exact h
        · have hrel : relF (e :: es) (mkSr o k q) = relF es (mkSr o k q) := by
            simp only [relF]
            exact if_neg hc
          rw [hrel] at h
          refine ⟨_, go_dec ⟨e1, e2⟩ (go_dec (by omega) (go_neg hc rfl)), ?_⟩
          refine (need_yes ⟨by simp only [I_i, L_l, Int.toNat_natCast]; exact h1, by simp only [I_i, L_l, Int.toNat_natCast]; exact h2, by simp only [I_i, Int.toNat_natCast]; omega, by simp only [I_i, Int.toNat_natCast]; exact h5⟩).trans ?_
          simp only [mkSr, I_i, L_l, Int.toNat_natCast] at h ⊢
          exact h
      obtain ⟨ds', k1, k2⟩ := key (e.getD 0 default) (e.getD 1 default) rfl rfl
      refine .again (x' := []) (ds' := ds') ?_ (fun h => by cases h) (ih _ _ k2)
      have : roundRT C tab1073 73 (rangeOf C.P 73 14) 0 5 [2, 6, 7, 9, 51] h1073_14 y103 [a, r, a', r', m, o, k, q] e = roundRT C tab1073 73 (rangeOf C.P 73 14) 0 5 [2, 6, 7, 9, 51] h1073_14 y103 [a, r, a', r', m, o, k, q] [e.getD 0 default, e.getD 1 default] := by
        unfold roundRT
        rw [head103 e]
      rw [this]
      exact k1
    · cases h
theorem ok1073_14 (n : Nat) : CodeSim C (n + 4) 0 73 (rangeOf C.P 73 14).code none 0 (rangeS 0 [2, 6, 7, 9, 51] (rangeOf C.P 73 14).1 it1073_14 h1073_14 G1073_14) :=
  range_of hC (sp := sp1073) (lp := lp1073) (sw := sw1073) (rg := rg1073) (Y := y103) (yOK_mk _ _ _) ⟨ok123 (n + 3), trivial⟩ ⟨ok93 (n + 1), ok102 (n + 3), ok127 n, trivial⟩ 14 0 5 [] (by kernel_rfl) rfl (by kernel_rfl) (by exact ⟨by kernel_rfl, by kernel_rfl⟩) (fun k hk => by cases hk)
    (by kernel_rfl) (by kernel_rfl) (it := it1073_14) ⟨ok103 (n + 1), trivial⟩ fun L ds rr h => fold1073 L ds rr h
theorem ends_uniqB {m : Nat} {r : List (List D)} : ∀ {f g : Nat} {s : Sr}, endsB m r f s → endsB m r g s → f = g
  | 0, 0, _, _, _ => rfl
  | 0, g + 1, s, h, h' => absurd h h'.1
  | f + 1, 0, s, h, h' => absurd h' h.1
  | f + 1, g + 1, s, h, h' => by rw [ends_uniqB h.2.2 h'.2.2]
theorem lenB_eq {m : Nat} {r : List (List D)} {f : Nat} {s : Sr} (h : endsB m r f s) : lenB m r s = f := ends_uniqB (Classical.epsilon_spec (p := fun f => endsB m r f s) ⟨f, h⟩) h
theorem resB_eq {m : Nat} {r : List (List D)} {f : Nat} {s : Sr} (h : endsB m r f s) : resB m r s = runG (stepG (nxB r)) f s := by unfold resB; rw [lenB_eq h]
theorem halt_zeroB {m : Nat} {r : List (List D)} {s : Sr} (hk : s.k = 0) : resB m r s = s.o ∧ lenB m r s = 0 := by
  have : endsB m r 0 s := hk
  exact ⟨resB_eq this, lenB_eq this⟩
theorem halt_stepB {m : Nat} {r : List (List D)} {s : Sr} (h : haltB m r s) (hk : s.k ≠ 0) : needB m r s ∧ haltB m r (stepG (nxB r) s) ∧ resB m r s = resB m r (stepG (nxB r) s) ∧ lenB m r (stepG (nxB r) s) < lenB m r s ∧ lenB m r s < 9223372036854775808 := by
  obtain ⟨f, hf, he⟩ := h
  cases f with
  | zero => exact absurd he hk
  | succ f =>
    have he' := he
    obtain ⟨-, h1, h2⟩ := he
    exact ⟨h1, ⟨f, by omega, h2⟩, by rw [resB_eq he', resB_eq h2]; rfl, by rw [lenB_eq he', lenB_eq h2]; omega, by rw [lenB_eq he']; exact hf⟩
theorem back_len {r : List (List D)} {v t : Int} : ∀ (k i : Nat), (backF r v t i k).length ≤ k
  | 0, _ => Nat.le_refl _
  | k + 1, i => by
    simp only [backF]
    have := back_len (r := r) (v := v) (t := t) k (i + 1)
    split
    · simp only [List.length_cons]; omega
    · omega
theorem ok1073_9 (n : Nat) : LoopSim C (n + 4) 73 (loopOf C.P 73 9) (mkL l1073_9 G1073_9) := by
  refine loop_ofR hC (sp := sp1073) (lp := lp1073) (sw := sw1073) (rg := rg1073) ⟨ok123 (n + 3), trivial⟩ ⟨ok93 (n + 1), ok102 (n + 3), ok127 n, trivial⟩ 0 [] [14] (by kernel_rfl) rfl (by kernel_rfl) (by kernel_rfl) (fun k hk => by cases hk)
    (fun k hk L hL => by simp at hk; subst hk; cases hL; exact ok1073_14 n) (by kernel_rfl) (fun ds => lenB (ds.getD 2 default).I.toNat (ds.getD 1 default).L (mkSr (ds.getD 3 default) (ds.getD 4 default) (ds.getD 5 default))) fun ds rr h => ?_
  unfold G1073_9 at h
  split at h
  · rename_i a r m o k q
    obtain ⟨hp, h⟩ := need_some h
    rw [yes_iff] at hp
    have hlt : lenB m.I.toNat r.L (mkSr o k q) < 9223372036854775808 := by
      by_cases hk : (mkSr o k q).k = 0
      · rw [(halt_zeroB hk).2]; omega
      · exact (halt_stepB hp hk).2.2.2.2
    refine ⟨by rw [fuelC]; exact Nat.lt_trans hlt (by omega), ?_⟩
    rw [show roundTK C (mkTabR sp1073 lp1073 sw1073 rg1073) 73 (loopOf C.P 73 9) 0 l1073_9 [a, r, m, o, k, q] = _ from t1073_9 a r m o k q]
    simp only [Int.toNat_natCast, rg_def]
    by_cases hk : k.I.toNat = 0
    · rw [(halt_zeroB (m := m.I.toNat) (r := r.L) (s := mkSr o k q) hk).1] at h
      refine rd_dec (by omega) (rd_neg (by rw [hk]; simp) (rd_out h))
    · obtain ⟨hN, h1, h2, h3, -⟩ := halt_stepB hp hk
      obtain ⟨n1, n2, n3, n4, n5, n6, n7, n8⟩ := hN
      rw [h2] at h
      generalize hS : mkSr o k q = S at *
      have hSk : S.k = k.I.toNat := by rw [← hS]; rfl
      have hSq : S.q = q.L := by rw [← hS]; rfl
      have hSo : S.o = o.L := by rw [← hS]; rfl
      have hV : ix ((popR q.L k.I.toNat).getD (k.I.toNat - 1) []) 0 = takeV S := by unfold takeV; rw [hSk, hSq]
      have hT : ix ((popR q.L k.I.toNat).getD (k.I.toNat - 1) []) 1 = takeT S := by unfold takeT; rw [hSk, hSq]
      simp only [hV, hT]
      rw [hSq, hSk] at n1
      rw [hSk] at n2
      rw [hSo] at n3
      have hlt1 : (List.take k.I.toNat q.L).length = k.I.toNat := by rw [List.length_take]; omega
      refine rd_dec n1 (rd_pos (by rw [hlt1]; omega) (rd_yes ⟨by omega, n1, by omega⟩ (rd_dec n4 (rd_dec (by omega) (rd_if (fun c => ?_) fun c => ?_)))))
      · have hst : stepG (nxB r.L) S = mkSr (D.l o.L) (D.i ((k.I.toNat - 1 : Nat) : Int)) (D.l (popR q.L k.I.toNat)) := by
          unfold stepG
          rw [if_pos (by rw [hSo]; exact c)]
          unfold popS
          rw [hSo, hSk, hSq]
          rfl
        refine rd_again ((need_yes (by rw [← hst]; exact h1)).trans ?_) (by
          show lenB m.I.toNat r.L (mkSr (D.l o.L) (D.i ((k.I.toNat - 1 : Nat) : Int)) (D.l (popR q.L k.I.toNat))) < lenB m.I.toNat r.L (mkSr o k q)
          rw [← hst, hS]; exact h3)
        rw [← hst]
        exact h
      · have hst : stepG (nxB r.L) S = relF (backF r.L (takeV S) (takeT S) 0 r.L.length) (mkSr (D.l o.L) (D.i ((k.I.toNat - 1 : Nat) : Int)) (D.l (popR q.L k.I.toNat))) := by
          unfold stepG
          rw [if_neg (by rw [hSo]; exact c)]
          unfold popS nxB
          rw [hSo, hSk, hSq]
          rfl
        have hnl := back_len (r := r.L) (v := takeV S) (t := takeT S) r.L.length 0
        refine rd_yes ⟨n6, n5⟩ (rd_yes ⟨n3, by rw [len_pop]; omega, by omega, fun e he => ?_⟩ ?_)
        · obtain ⟨j, -, hj, -, e1, -⟩ := back_mem _ _ _ he
          rw [e1]
          exact n8 j (by omega)
        · have hmk : ∀ s : Sr, mkSr (D.l s.o) (D.i (s.k : Int)) (D.l s.q) = s := fun s => by simp only [mkSr, I_i, L_l, Int.toNat_natCast]
          rw [← hst]
          refine rd_again ((need_yes (by simp only [I_i, L_l, Int.toNat_natCast, hmk]; exact h1)).trans ?_) (by
            show lenB m.I.toNat r.L (mkSr (D.l (stepG (nxB r.L) S).o) (D.i ((stepG (nxB r.L) S).k : Int)) (D.l (stepG (nxB r.L) S).q)) < lenB m.I.toNat r.L (mkSr o k q)
            rw [hmk, hS]; exact h3)
          simp only [I_i, L_l, Int.toNat_natCast, hmk]
          exact h
  · cases h
theorem ok1073 (n : Nat) : FnOK C (n + 5) 73 (mkF s1073 G1073) := by
  have hby : Try.prog.types[3].bytes = 8 := by kernel_rfl
  refine fn_ofR hC (sp := sp1073) (lp := lp1073) (sw := sw1073) (rg := rg1073) ⟨ok123 (n + 3), trivial⟩ ⟨ok93 (n + 1), ok102 (n + 3), ok127 n, trivial⟩ (by kernel_rfl) [3, 9] [] (by kernel_rfl) (by kernel_rfl) (by kernel_rfl) rfl (fun k hk L hL => by
    simp at hk; rcases hk with rfl | rfl <;> cases hL
    · exact ok1073_3 n
    · exact ok1073_9 n) (fun k hk => by cases hk) fun ds r h => ?_
  unfold G1073 at h
  split at h
  · rename_i m v t a r'
    obtain ⟨hp, h⟩ := need_some h
    rw [yes_iff] at hp
    obtain ⟨h0, h1, h2, h3, h4⟩ := hp
    refine (congrArg T.run (t1073 m v t a r')).trans ?_
    have hz : (0 : Int).toNat = 0 := rfl
    simp only [List.length_replicate, Int.toNat_natCast, hz, Nat.sub_zero, fill_all, upd1, rs_def]
    have hm : (m.I.toNat : Int) = m.I := by omega
    refine go_need (by rw [hby]; simp; omega) (go_yes ⟨trivial, Nat.le_refl _, by omega, by omega, by omega⟩ (go_dec (by omega) (go_need (by simp; omega) (go_yes h4 ?_))))
    rw [hm]
    exact h
  · cases h
theorem runB_len {N : Int → Int → List (List D)} : ∀ (f : Nat) (s : Sr), (runG (stepG N) f s).length = s.o.length
  | 0, _ => rfl
  | f + 1, s => by
    simp only [runG]
    rw [runB_len f]
    unfold stepG
    split
    · rfl
    · exact rel_len _ _
theorem resB_len {m : Nat} {r : List (List D)} {s : Sr} : (resB m r s).length = s.o.length := runB_len _ _
theorem neg_rg : ∀ (k i : Nat) (l : List (List D)), i + k ≤ l.length → (negF i k l).length = l.length ∧ ∀ u, rg (negF i k l) u = if i ≤ u ∧ u < i + k then -(rg l u) else rg l u
  | 0, i, l, _ => ⟨rfl, fun u => by simp only [negF]; rw [if_neg (by omega)]⟩
  | k + 1, i, l, h => by
    obtain ⟨h1, h2⟩ := neg_rg k (i + 1) (rs l i (-(rg l i))) (by rw [len_rs]; omega)
    simp only [negF]
    refine ⟨by rw [h1, len_rs], fun u => ?_⟩
    rw [h2, rg_rs (by omega)]
    by_cases e : u = i
    · subst e
      rw [if_neg (by omega), if_pos rfl, if_pos (by omega)]
    · rw [if_neg e]
      by_cases e2 : i + 1 ≤ u ∧ u < i + 1 + k
      · rw [if_pos e2, if_pos (by omega)]
      · rw [if_neg e2, if_neg (by omega)]
theorem back_ends {n : Int} {r : List (List D)} {v t : Int} (hN : netB n r = true) (hv : 0 ≤ v ∧ v < n) (ht : -1000000 ≤ t ∧ t ≤ 100000) :
    haltB n.toNat r (startS n v t) ∧ Least (edB r) n.toNat v t (rg (resB n.toNat r (startS n v t))) := by
  obtain ⟨h1, h2, h3⟩ := net_parts hN
  have hE := edB_ok hN
  have hI : INF = 9223372036854775807 := rfl
  have hn : (n.toNat : Int) = n := by omega
  have hB : max t 100000 + 10000 * ((n.toNat : Int) + 1) < INF := by omega
  have hp := pot_start (n := n) (B := max t 100000 + 10000 * ((n.toNat : Int) + 1)) hv (by omega : t < INF) (by omega)
  have hm : (max t 100000 + 10000 * ((n.toNat : Int) + 1) + 1 - t).toNat * n.toNat ≤ 4000000 * 200 := Nat.mul_le_mul (by omega) (by omega)
  obtain ⟨f, f1, f2, f3⟩ := inv_ends (n := n.toNat) hE (nxB_ok r) hB (by omega) (need := needB n.toNat r) (Q := 2000000000) (fun s I hk hQ => by
    have hkq : s.k ≤ 2000000000 := by unfold potN at hQ; omega
    obtain ⟨⟨v1, v2⟩, v3, v4⟩ := I.q _ ((pop_in hk I.kq (takeV s, takeT s)).2 (.inl rfl))
    simp only at v1 v2 v3 v4
    have hfV : rg s.o (takeV s).toNat < INF := by omega
    have hlo := walk_lo hE (I.walk (takeV s).toNat (by omega) hfV)
    refine ⟨I.kq, by omega, by rw [I.len]; exact Nat.le_refl _, ⟨v1, v2⟩, ⟨by omega, by omega⟩, net_okR hN, by omega, fun i hi => ?_⟩
    have := (road_parts (h3 i hi)).1
    omega) 2000000000 (startS n v t) (inv_start hv (by omega)) (by omega) (Nat.le_refl _)
  refine ⟨⟨f, by omega, f2⟩, ?_⟩
  rw [resB_eq f2]
  exact f3
theorem back_okN {n : Int} {r : List (List D)} {v t : Int} (hN : netB n r = true) (hv : 0 ≤ v ∧ v < n) (ht : -1000000 ≤ t ∧ t ≤ 100000) : okN (resB n.toNat r (startS n v t)) := fun u => by
  have hL := (back_ends hN hv ht).2
  have hI : INF = 9223372036854775807 := rfl
  by_cases hu : u < n.toNat
  · have h1 := hL.1 u hu
    by_cases hf : rg (resB n.toNat r (startS n v t)) u < INF
    · have := walk_lo (edB_ok hN) (hL.2.1 u hu hf)
      omega
    · omega
  · rw [rg_ge (by rw [resB_len, len_start]; omega)]
    omega
theorem ok97_3 (n : Nat) : LoopSim C (n + 5) 97 (loopOf C.P 97 3) (mkL l97_3 G97_3) := by
  refine loop_ofK hC (sp := sp97) (lp := lp97) (sw := sw97) ⟨ok1073 n, trivial⟩ ⟨ok102 (n + 4), trivial⟩ 0 [] (by kernel_rfl) rfl (fun k hk => by cases hk) (by kernel_rfl) (fun ds => ((ds.getD 1 default).I - (ds.getD 2 default).I).toNat) fun ds rr h => ?_
  unfold G97_3 at h
  split at h
  · rename_i m k i l
    obtain ⟨hp, h⟩ := need_some h
    rw [yes_iff] at hp
    obtain ⟨h1, h3, hi0, hi1, h4, h5⟩ := hp
    refine ⟨by rw [fuelC]; simp; omega, ?_⟩
    rw [show roundTK C (mkTab sp97 lp97 sw97) 97 (loopOf C.P 97 3) 0 l97_3 [m, k, i, l] = _ from t97_3 m k i l]
    obtain ⟨j, hj⟩ : ∃ j : Nat, i.I = j := ⟨i.I.toNat, by omega⟩
    simp only [hj, h1, Int.toNat_natCast, upd1, rs_def, rg_def] at h hi0 hi1 h4 ⊢
    refine rd_if (fun hlt => ?_) fun hge => ?_
    · have hjr := h5 j
      have hw : IntKind.i64.wrap (0 - rg l.L j) = -(rg l.L j) := by rw [Int.zero_sub]; exact wrap_id (by omega) (by omega)
      have hN' : okN (rs l.L j (-(rg l.L j))) := fun u => by
        rw [rg_rs (by omega)]
        have := h5 u
        split <;> omega
      rw [wrap_succ (by omega), hw]
      rw [show m.I.toNat - j = (m.I.toNat - (j + 1)) + 1 by omega] at h
      simp only [negF] at h
      refine rd_dec (by omega) (rd_dec (by omega) (rd_dec (by omega) (rd_dec (by omega) (rd_again ((need_yes ⟨by simp only [I_i, Int.toNat_natCast], by simp only [I_i, L_l, Int.toNat_natCast, len_rs]; exact h3, by simp only [I_i]; omega, by simp only [I_i]; omega, by simp only [I_i]; omega, hN'⟩).trans ?_) ?_))))
      · simp only [I_i, L_l, Int.toNat_natCast]
        exact h
      · show ((m.I.toNat : Int) - ((j + 1 : Nat) : Int)).toNat < (k.I - i.I).toNat
        rw [hj, h1]; omega
    · rw [show m.I.toNat - j = 0 by omega] at h
      exact rd_out h
  · cases h
theorem ok97 (n : Nat) : FnOK C (n + 6) 97 (mkF s97 G97) := by
  refine fn_ofS hC (sp := sp97) (lp := lp97) (sw := sw97) ⟨ok1073 n, trivial⟩ ⟨ok102 (n + 4), trivial⟩ (by kernel_rfl) [3] (by kernel_rfl) (by kernel_rfl) (fun k hk L hL => by
    simp at hk; subst hk; cases hL; exact ok97_3 n) fun ds r h => ?_
  unfold G97 at h
  split at h
  · rename_i m r' v t
    obtain ⟨hp, h⟩ := need_some h
    rw [yes_iff] at hp
    obtain ⟨hN, hv, ht⟩ := hp
    obtain ⟨p1, p2, p3⟩ := net_parts hN
    have hw : IntKind.i64.wrap (0 - t.I) = -t.I := by rw [Int.zero_sub]; exact wrap_id (by omega) (by omega)
    refine (congrArg T.run (t97 m r' v t)).trans ?_
    rw [hw]
    have hz : (0 : Int).toNat = 0 := rfl
    simp only [Int.toNat_natCast, hz, Nat.sub_zero]
    have hm : (m.I.toNat : Int) = m.I := by omega
    refine go_yes ⟨by omega, by omega, by omega, by omega, (back_ends hN hv (by omega)).1⟩ (go_yes ⟨trivial, by rw [resB_len, len_start]; exact Nat.le_refl _, by omega, by omega, by omega, back_okN hN hv (by omega)⟩ ?_)
    rw [hm]
    exact h
  · cases h
end Go.Proofs.Ytgmefblkmidglaa
namespace Go.Proofs.Ytgmefblkmidglaa
open Go.Lite
set_option maxRecDepth 100000
set_option linter.unusedVariables false
theorem lat_parts {n : Int} {r : List (List D)} {a b : Int} (hN : netB n r = true) (ha : 0 ≤ a ∧ a < n) (hb : 0 ≤ b ∧ b ≤ 1000000) :
    (latF n r a b).length = n.toNat ∧ (∀ u, -9223372036854775807 ≤ rg (latF n r a b) u ∧ rg (latF n r a b) u ≤ b) ∧ ∃ d, Least (edB r) n.toNat a (-b) d ∧ ∀ u, u < n.toNat → rg (latF n r a b) u = -(d u) := by
  obtain ⟨-, hL⟩ := back_ends hN ha (t := -b) (by omega)
  have hlen : (resB n.toNat r (startS n a (-b))).length = n.toNat := by rw [resB_len, len_start]
  obtain ⟨h1, h2⟩ := neg_rg n.toNat 0 (resB n.toNat r (startS n a (-b))) (by omega)
  have hI : INF = 9223372036854775807 := rfl
  have hrg : ∀ u, u < n.toNat → rg (latF n r a b) u = -(rg (resB n.toNat r (startS n a (-b))) u) := fun u hu => by
    unfold latF
    rw [h2, if_pos ⟨Nat.zero_le _, by omega⟩]
  refine ⟨by unfold latF; rw [h1, hlen], fun u => ?_, _, hL, hrg⟩
  by_cases hu : u < n.toNat
  · rw [hrg u hu]
    have h3 := hL.1 u hu
    by_cases hf : rg (resB n.toNat r (startS n a (-b))) u < INF
    · have := walk_lo (edB_ok hN) (hL.2.1 u hu hf)
      omega
    · omega
  · rw [rg_ge (by unfold latF; rw [h1, hlen]; omega)]
    omega
theorem zon_mk {n : Int} {a b c : D} (h : zonB n (mk3 a b c) = true) : (0 ≤ a.I ∧ a.I < n) ∧ (0 ≤ b.I ∧ b.I ≤ 65535) ∧ 0 ≤ c.I ∧ c.I ≤ 10000 := by
  rw [zonB_mk, decide_eq_true_iff] at h
  exact h
theorem zon_parts {n : Int} {z : List D} (h : zonB n z = true) : (0 ≤ ix z 0 ∧ ix z 0 < n) ∧ (0 ≤ ix z 1 ∧ ix z 1 ≤ 65535) ∧ 0 ≤ ix z 2 ∧ ix z 2 ≤ 10000 := of_decide_eq_true h
theorem veh_parts {n : Int} {x : List D} (h : vehB n x = true) : (0 ≤ ix x 0 ∧ ix x 0 < n) ∧ (0 ≤ ix x 1 ∧ ix x 1 ≤ 65535) ∧ (0 ≤ ix x 2 ∧ ix x 2 ≤ ix x 3) ∧ ix x 3 ≤ 100000 := of_decide_eq_true h
theorem mn_parts (a b : Int) : (mn a b ≤ a ∧ mn a b ≤ b) ∧ (mn a b = a ∨ mn a b = b) := by
  unfold mn
  split <;> omega
theorem mx_parts (a b : Int) : (a ≤ mx a b ∧ b ≤ mx a b) ∧ (mx a b = a ∨ mx a b = b) := by
  unfold mx
  split <;> omega
section
variable {n : Int} {r v : List (List D)} {z : List D} {h t : Int}
theorem best_le (hN : netB n r = true) {a to : Int} (ha : 0 ≤ a ∧ a < n) (ht : 0 ≤ t ∧ t ≤ 100000) : -1 ≤ bestF n r a t to ∧ bestF n r a t to ≤ 1099521627776 := by
  have := (arr_ok hN ha ht).1.2 to.toNat
  unfold bestF
  omega
theorem pv_step {x : List D} {s : Pv} (hN : netB n r = true) (hx : vehB n x = true) (hz : zonB n z = true) (ht : 0 ≤ t ∧ t < h) (hh : h ≤ 100000) (hs : okPv t h s) : okPv t h (stV n r z t x s) := by
  obtain ⟨x0, x1, x2, x3⟩ := veh_parts hx
  obtain ⟨s1, s2, s3, s4⟩ := hs
  unfold stV
  split
  · exact ⟨s1, s2, s3, s4⟩
  · rename_i c1
    have c1' : t < ix x 3 := by
      rcases Int.lt_or_le t (ix x 3) with h | h
      · exact h
      · exact absurd (.inr h) c1
    split
    · have := mn_parts s.nx (ix x 2)
      exact ⟨s1, s2, by simp only; omega, by simp only; omega⟩
    · split
      · have m1 := mn_parts (latU n r z t (ix x 0) + 1) (ix x 3)
        have m2 := mx_parts s.to (mn (latU n r z t (ix x 0) + 1) (ix x 3))
        exact ⟨fun _ => by simp only; omega, by simp only; omega, s3, s4⟩
      · split
        · have m1 := mx_parts (t + 1) (bestF n r (ix x 0) t (ix z 0) - ix z 2)
          have m2 := mn_parts s.nx (mx (t + 1) (bestF n r (ix x 0) t (ix z 0) - ix z 2))
          exact ⟨s1, s2, by simp only; omega, by simp only; omega⟩
        · exact ⟨s1, s2, s3, s4⟩
theorem run_pv (hN : netB n r = true) (hv : vehs n v = true) (hz : zonB n z = true) (ht : 0 ≤ t ∧ t < h) (hh : h ≤ 100000) : ∀ (k i : Nat) (s : Pv), i + k ≤ v.length → okPv t h s → okPv t h (runV n r v z t i k s)
  | 0, _, _, _, hs => hs
  | k + 1, i, s, hi, hs => run_pv hN hv hz ht hh k (i + 1) _ (by omega) (pv_step hN (veh_of hv (by omega : i < v.length)) hz ht hh hs)
theorem pv_at (hP : okP n r v z h) (ht : 0 ≤ t ∧ t < h) : okPv t h (pvAt n r v z h t) := by
  obtain ⟨hN, hv, hz, -, h0, h1⟩ := hP
  exact run_pv hN hv hz ht h1 _ _ _ (by omega) ⟨fun e => absurd e (by simp), ⟨Int.le_refl _, by simp only; omega⟩, by simp only; omega, Int.le_refl _⟩
theorem to_gt (hP : okP n r v z h) (ht : 0 ≤ t ∧ t < h) : t < toP n r v z h t ∧ toP n r v z h t ≤ h := by
  obtain ⟨s1, s2, s3, s4⟩ := pv_at hP ht
  unfold toP
  have m1 := mn_parts (if (pvAt n r v z h t).c then (pvAt n r v z h t).to else mx (t + 1) (pvAt n r v z h t).nx) h
  have m2 := mx_parts (t + 1) (pvAt n r v z h t).nx
  cases hc : (pvAt n r v z h t).c with
  | true =>
    have := s1 hc
    rw [hc] at m1
    simp only [if_true] at m1 ⊢
    omega
  | false =>
    rw [hc] at m1
    simp only [Bool.false_eq_true, if_false] at m1 ⊢
    omega
theorem piece_fuel (hP : okP n r v z h) : ∀ (f : Nat) (t : Int), 0 ≤ t → (h - t).toNat ≤ f → pieceL n r v z h f t = pieceL n r v z h (h - t).toNat t
  | 0, t, h0, hf => by rw [show (h - t).toNat = 0 by omega]
  | f + 1, t, h0, hf => by
    by_cases ht : t < h
    · obtain ⟨g1, g2⟩ := to_gt hP ⟨h0, ht⟩
      obtain ⟨e, he⟩ : ∃ e, (h - t).toNat = e + 1 := ⟨(h - t).toNat - 1, by omega⟩
      rw [he]
      simp only [pieceL, if_pos ht]
      rw [piece_fuel hP f _ (by omega) (by omega), piece_fuel hP e _ (by omega) (by omega)]
    · rw [show (h - t).toNat = 0 by omega]
      simp only [pieceL, if_neg ht]
theorem piece_step (hP : okP n r v z h) (ht : 0 ≤ t ∧ t < h) : pieceL n r v z h (h - t).toNat t = [.i t, .i (toP n r v z h t), .b (pvAt n r v z h t).c] :: pieceL n r v z h (h - toP n r v z h t).toNat (toP n r v z h t) := by
  obtain ⟨g1, g2⟩ := to_gt hP ht
  obtain ⟨e, he⟩ : ∃ e, (h - t).toNat = e + 1 := ⟨(h - t).toNat - 1, by omega⟩
  rw [he]
  simp only [pieceL, if_pos ht.2]
  rw [piece_fuel hP e _ (by omega) (by omega)]
theorem piece_len (n : Int) (r v : List (List D)) (z : List D) (h : Int) : ∀ (f : Nat) (t : Int), (pieceL n r v z h f t).length ≤ f
  | 0, _ => Nat.le_refl _
  | f + 1, t => by
    simp only [pieceL]
    split
    · simp only [List.length_cons]
      have := piece_len n r v z h f (toP n r v z h t)
      omega
    · simp
end
theorem ok96_6 (q n : Nat) : LoopSimY C (n + 6) 4 96 (loopOf C.P 96 6) (some y96) q (mkLY 4 l96_6 (G96_6 q)) := by
  refine loop_ofY hC (sp := sp96) (lp := lp96 q) (sw := sw96) (Y := y96) (yOK_mk _ _ _) ⟨ok97 n, ok46 n, trivial⟩ trivial 4 [] (by kernel_rfl) rfl (by kernel_rfl) (fun k hk => by cases hk) (by kernel_rfl) (fun ds => ((ds.getD 5 default).I - (ds.getD 6 default).I).toNat) fun ds rr hh => ?_
  unfold G96_6 at hh
  split at hh
  · rename_i g t m nx v' q' i h n' r a b c v l pf pt pc
    obtain ⟨hp, hh⟩ := need_some hh
    rw [yes_iff] at hp
    obtain ⟨hP, ht, hl, hm, hv', hq', hi, hs⟩ := hp
    have hP' := hP
    obtain ⟨hN, hv, hz, hvl, h0, h1⟩ := hP'
    obtain ⟨z0, z1, z2, z3⟩ := zon_mk hz
    obtain ⟨p1, p2, p3⟩ := net_parts hN
    obtain ⟨l1, l2, -⟩ := lat_parts hN z0 (b := t.I + c.I) (by omega)
    refine ⟨by rw [fuelC]; simp; omega, ?_⟩
    rw [show roundTY C (mkTabY sp96 (lp96 q) sw96 y96 q) 96 (loopOf C.P 96 6) 4 l96_6 [g, t, m, nx, v', q', i, h, n', r, a, b, c, v, l, pf, pt, pc] = _ from t96_6 q g t m nx v' q' i h n' r a b c v l pf pt pc]
    obtain ⟨k, hk⟩ : ∃ k : Nat, i.I = k := ⟨i.I.toNat, by omega⟩
    have hn : (n'.I.toNat : Int) = n'.I := by omega
    simp only [hk, hm, hn, hv', hq', hl, Int.toNat_natCast, Nat.reduceAdd, ix_def] at hh hi ⊢
    refine rd_if (fun hlt => ?_) fun hge => ?_
    · have hkl : k < v.L.length := by omega
      have hx := veh_of hv hkl
      obtain ⟨x0, x1, x2, x3⟩ := veh_parts hx
      have hst := pv_step hN hx hz ht h1 hs
      rw [show v.L.length - k = (v.L.length - (k + 1)) + 1 by omega] at hh
      simp only [runV] at hh
      have hmu : ((v.L.length : Int) - ((k + 1 : Nat) : Int)).toNat < (q'.I - i.I).toNat := by omega
      have hnext : ∀ s' : Pv, stV n'.I r.L (mk3 a b c) t.I (v.L.getD k []) (pvOf pc pt nx) = s' → (G96_6 q [.l g.L, .i t.I, .i n'.I, .i s'.nx, .l v.L, .i v.L.length, .i ((k + 1 : Nat) : Int), .i h.I, .i n'.I, .l r.L, .i a.I, .i b.I, .i c.I, .l v.L, .l (latF n'.I r.L a.I (t.I + c.I)), .i pf.I, .i s'.to, .b s'.c]).run = some rr := fun s' e => by
        rw [e] at hh hst
        exact (need_yes ⟨hP, ht, rfl, rfl, rfl, rfl, by simp only [I_i, L_l]; omega, hst⟩).trans hh
      have hlu : ix ((latF n'.I r.L a.I (t.I + c.I)).getD (ix (v.L.getD k []) 0).toNat []) 0 = latU n'.I r.L (mk3 a b c) t.I (ix (v.L.getD k []) 0) := rfl
      have hbe : ix ((arrF n'.I r.L (ix (v.L.getD k []) 0) t.I).getD a.I.toNat []) 0 = bestF n'.I r.L (ix (v.L.getD k []) 0) t.I (ix (mk3 a b c) 0) := rfl
      have l2' := l2 (ix (v.L.getD k []) 0).toNat
      have hal := (arr_ok hN (v := ix (v.L.getD k []) 0) (t := t.I) x0 (by omega)).1.1
      have hb2 := best_le hN (a := ix (v.L.getD k []) 0) (to := ix (mk3 a b c) 0) (t := t.I) x0 (by omega)
      have hz2 : ix (mk3 a b c) 2 = c.I := rfl
      have hab : ableB (v.L.getD k []) (mk3 a b c) = (andI (ix (v.L.getD k []) 1) b.I == b.I) := rfl
      rw [show rg (latF n'.I r.L a.I (t.I + c.I)) (ix (v.L.getD k []) 0).toNat = latU n'.I r.L (mk3 a b c) t.I (ix (v.L.getD k []) 0) from rfl] at l2'
      simp only [hlu, hbe]
      unfold stV at hnext
      rw [wrap_succ (by omega)]
      refine rd_dec (by omega) (rd_ite (fun c1 => ?_) fun c1 => ?_)
      · have c1 : (andI (ix (v.L.getD k []) 1) b.I == b.I) = false := beq_false_of_ne (bne_iff_ne.1 c1)
        exact rd_again (hnext (pvOf pc pt nx) (by rw [hab, c1, if_pos (.inl rfl)])) hmu
      · have c1 : (andI (ix (v.L.getD k []) 1) b.I == b.I) = true := by
          cases hx : (andI (ix (v.L.getD k []) 1) b.I == b.I) with
          | true => rfl
          | false =>
            have hx : andI (ix (v.L.getD k []) 1) b.I ≠ b.I := ne_of_beq_false hx
            have : (andI (ix (v.L.getD k []) 1) b.I != b.I) = true := bne_iff_ne.2 hx
            exact absurd (this.symm.trans c1) (by simp)
        rw [hab, c1] at hnext
        refine rd_if (fun c2 => rd_again (hnext (pvOf pc pt nx) (by rw [if_pos (.inr (by omega))])) hmu) fun c2 => ?_
        have c2' : ¬ (true = false ∨ ix (v.L.getD k []) 3 ≤ t.I) := fun h => h.elim (fun h => by cases h) fun h => c2 h
        refine rd_if (fun c3 => rd_again (hnext ⟨pc.B, pt.I, mn nx.I (ix (v.L.getD k []) 2)⟩ (by rw [if_neg c2', if_pos c3]; rfl)) hmu) fun c3 => ?_
        refine rd_dec (by omega) (rd_dec (by omega) (rd_if (fun c4 => ?_) fun c4 => ?_))
        · rw [wrap_id (x := latU n'.I r.L (mk3 a b c) t.I (ix (v.L.getD k []) 0) + 1) (by omega) (by omega)]
          exact rd_dec (by omega) (rd_dec (by omega) (rd_again (hnext ⟨true, mx pt.I (mn (latU n'.I r.L (mk3 a b c) t.I (ix (v.L.getD k []) 0) + 1) (ix (v.L.getD k []) 3)), nx.I⟩ (by rw [if_neg c2', if_neg c3, if_pos (by omega)]; rfl)) hmu))
        · refine rd_yes ⟨by omega, by omega, x0.1, x0.2, (search_ends hN x0 (by omega) (by omega)).1⟩ (rd_dec (by omega) (rd_dec (by unfold bestF at hb2; omega) (rd_if (fun c5 => ?_) fun c5 => ?_)))
          · rw [wrap_id (x := bestF n'.I r.L (ix (v.L.getD k []) 0) t.I (ix (mk3 a b c) 0) - c.I) (by omega) (by omega), wrap_id (x := t.I + 1) (by omega) (by omega)]
            exact rd_again (hnext ⟨pc.B, pt.I, mn nx.I (mx (t.I + 1) (bestF n'.I r.L (ix (v.L.getD k []) 0) t.I (ix (mk3 a b c) 0) - c.I))⟩ (by rw [if_neg c2', if_neg c3, if_neg (by omega), if_pos (by omega)]; rfl)) hmu
          · exact rd_again (hnext (pvOf pc pt nx) (by rw [if_neg c2', if_neg c3, if_neg (by omega), if_neg (by omega)])) hmu
    · rw [show v.L.length - k = 0 by omega] at hh
      exact rd_out hh
  · cases hh
theorem ok96_1 (q n : Nat) : LoopSimY C (n + 6) 4 96 (loopOf C.P 96 1) (some y96) q (mkLY 4 l96_1 (G96_1 q)) := by
  refine loop_ofY hC (sp := sp96) (lp := lp96 q) (sw := sw96) (Y := y96) (yOK_mk _ _ _) ⟨ok97 n, ok46 n, trivial⟩ trivial 4 [6] (by kernel_rfl) (by kernel_rfl) (by kernel_rfl) (fun k hk L hL => by simp at hk; subst hk; cases hL; exact ok96_6 q n) (by kernel_rfl) (fun ds => ((ds.getD 2 default).I - (ds.getD 1 default).I).toNat) fun ds rr hh => ?_
  unfold G96_1 at hh
  split at hh
  · rename_i g t h n' r a b c v
    obtain ⟨hp, hh⟩ := need_some hh
    rw [yes_iff] at hp
    obtain ⟨hP, ht0, ht1, hg⟩ := hp
    have hP' := hP
    obtain ⟨hN, hv, hz, hvl, h0, h1⟩ := hP'
    obtain ⟨z0, z1, z2, z3⟩ := zon_mk hz
    obtain ⟨p1, p2, p3⟩ := net_parts hN
    refine ⟨by rw [fuelC]; simp; omega, ?_⟩
    rw [show roundTY C (mkTabY sp96 (lp96 q) sw96 y96 q) 96 (loopOf C.P 96 1) 4 l96_1 [g, t, h, n', r, a, b, c, v] = _ from t96_1 q g t h n' r a b c v]
    have hq : (tab96 q).q = q := rfl
    have hn : (n'.I.toNat : Int) = n'.I := by omega
    refine rd_if (fun hlt => ?_) fun hge => ?_
    · rw [wrap_id (x := t.I + c.I) (by omega) (by omega), wrap_id (x := t.I + 1) (by omega) (by omega)]
      simp only [hn, hq, Int.toNat_zero, Nat.sub_zero]
      rw [piece_step hP ⟨ht0, hlt⟩] at hh
      obtain ⟨g1, g2⟩ := to_gt hP ⟨ht0, hlt⟩
      have hpv : runV n'.I r.L v.L (mk3 a b c) t.I 0 v.L.length (pvOf (.b false) (.i t.I) (.i h.I)) = pvAt n'.I r.L v.L (mk3 a b c) h.I t.I := rfl
      have hmk : mk3 (.i a.I) (.i b.I) (.i c.I) = mk3 a b c := rfl
      simp only [hmk, hpv]
      refine rd_yes ⟨hN, z0, by omega, by omega⟩ (rd_yes ⟨hP, ⟨ht0, hlt⟩, trivial, trivial, trivial, trivial, ⟨by omega, by omega⟩, ⟨fun e => absurd e (by simp [pvOf, B_b]), by simp only [pvOf, I_i]; omega, by simp only [pvOf, I_i]; omega, by simp only [pvOf, I_i]; omega⟩⟩ ?_)
      have hlast : ∀ (X : Int) (b' : Bool), X = toP n'.I r.L v.L (mk3 a b c) h.I t.I → b' = (pvAt n'.I r.L v.L (mk3 a b c) h.I t.I).c →
          RdOK (G96_1 q) (fun ds => ((ds.getD 2 default).I - (ds.getD 1 default).I).toNat) [g, t, h, n', r, a, b, c, v] rr (T.ite (!(!(g.L.length == q))) (T.leaf (Rd.out Ex.ret [.l (g.L ++ [[.i t.I, .i X, .b b']]), .i h.I, .i n'.I, .l r.L, .i a.I, .i b.I, .i c.I, .l v.L])) (T.leaf (Rd.again [.l (g.L ++ [[.i t.I, .i X, .b b']]), .i X, .i h.I, .i n'.I, .l r.L, .i a.I, .i b.I, .i c.I, .l v.L]))).run := fun X b' hX hb' => by
        subst hX hb'
        refine rd_ite (fun c2 => ?_) fun c2 => ?_
        · rw [Bool.not_not] at c2
          have c2 : g.L.length = q := by simpa using c2
          rw [run_ite, if_pos (by simp; omega)] at hh
          rw [show q + 1 - g.L.length = 1 by omega] at hh
          exact rd_out hh
        · rw [Bool.not_not] at c2
          have c2 : g.L.length ≠ q := by
            have : ¬ (g.L.length == q) = true := by rw [show (g.L.length == q) = false from c2]; simp
            simpa using this
          refine rd_again ((need_yes ⟨hP, by simp only [I_i]; omega, by simp only [I_i]; omega, by simp only [L_l, List.length_append, List.length_cons, List.length_nil]; omega⟩).trans ?_) (show (h.I - toP n'.I r.L v.L (mk3 a b c) h.I t.I).toNat < (h.I - t.I).toNat by omega)
          simp only [I_i, L_l, List.length_append, List.length_cons, List.length_nil, List.append_assoc, List.cons_append, List.nil_append, hmk] at hh ⊢
          rw [show q + 1 - g.L.length = (q + 1 - (g.L.length + (0 + 1))) + 1 by omega, List.take_succ_cons] at hh
          rw [show g.L.length + (0 + 1) + (pieceL n'.I r.L v.L (mk3 a b c) h.I (h.I - toP n'.I r.L v.L (mk3 a b c) h.I t.I).toNat (toP n'.I r.L v.L (mk3 a b c) h.I t.I)).length = g.L.length + ((pieceL n'.I r.L v.L (mk3 a b c) h.I (h.I - toP n'.I r.L v.L (mk3 a b c) h.I t.I).toNat (toP n'.I r.L v.L (mk3 a b c) h.I t.I)).length + 1) by omega]
          exact hh
      refine rd_not (fun c1 => ?_) fun c1 => ?_
      · exact hlast _ _ (by unfold toP; rw [c1]; rfl) rfl
      · exact hlast _ _ (by unfold toP; rw [c1]; rfl) rfl
    · rw [show (h.I - t.I).toNat = 0 by omega] at hh
      simp only [pieceL, List.length_nil, List.append_nil] at hh
      rw [run_ite] at hh
      split at hh
      · rename_i hc
        have := of_decide_eq_true hc
        omega
      · exact rd_out hh
  · cases hh
theorem ok96 (n : Nat) : IterOK C (n + 7) 96 y96 (mkFY s96 G96) := by
  refine iter_of hC (sp := sp96) (lp := lp96) (sw := sw96) (Y := y96) (yOK_mk _ _ _) ⟨ok97 n, ok46 n, trivial⟩ trivial (by kernel_rfl) [1] (by kernel_rfl) (by kernel_rfl) (by kernel_rfl) (fun q k hk L hL => by
    simp at hk; subst hk; cases hL; exact ok96_1 q n) fun ds L hh q => ?_
  unfold G96 at hh
  split at hh
  · rename_i h n' r a b c v
    obtain ⟨hp, hh⟩ := need_some hh
    rw [yes_iff] at hp
    cases hh
    have h0 := hp.2.2.2.2
    refine (congrArg T.run (t96 q h n' r a b c v)).trans ?_
    have hmk : mk3 (.i a.I) (.i b.I) (.i c.I) = mk3 a b c := rfl
    rw [Int.sub_zero]
    simp only [hmk]
    refine go_yes ⟨hp, by omega, h0.1, by simp⟩ (go_if (fun hc => ?_) fun hc => ?_)
    · simp only [List.nil_append, List.length_nil, Nat.sub_zero, run_leaf]
    · have hc : ¬ q < (pieceL n'.I r.L v.L (mk3 a b c) h.I h.I.toNat 0).length := fun h => hc (by simpa using h)
      simp only [List.nil_append, run_leaf]
      rw [List.take_of_length_le (by omega)]
  · cases hh
end Go.Proofs.Ytgmefblkmidglaa
namespace Go.Proofs.Ytgmefblkmidglaa
open Go.Lite
set_option linter.unusedVariables false
section
variable {n : Int} {r : List (List D)} {a w s s' b : Int}
theorem doc_best (hN : netB n r = true) (ha : 0 ≤ a ∧ a < n) (hw : 0 ≤ w ∧ w < n) (hs : 0 ≤ s ∧ s ≤ 100000) : docA n r a s w = bestF n r a s w := ((arr_same hN ha hs).2.2 w.toNat (by omega)).symm
theorem best_d (hN : netB n r = true) (ha : 0 ≤ a ∧ a < n) (hw : 0 ≤ w ∧ w < n) (hs : 0 ≤ s ∧ s ≤ 100000) : ∃ d, Least (edR r) n.toNat a s d ∧ ((0 ≤ bestF n r a s w ∧ bestF n r a s w = d w.toNat ∧ d w.toNat < INF) ∨ (bestF n r a s w < 0 ∧ d w.toNat = INF)) := by
  obtain ⟨o1, d, hL, hd⟩ := arr_ok hN ha hs
  have h1 := hd w.toNat (by omega)
  have h2 := (o1.2 w.toNat).2
  refine ⟨d, hL, ?_⟩
  unfold bestF
  unfold cv at h1
  have hI : INF = 9223372036854775807 := rfl
  split at h1
  · right; omega
  · left; omega
theorem doc_le (hN : netB n r = true) (ha : 0 ≤ a ∧ a < n) (hw : 0 ≤ w ∧ w < n) (hs : 0 ≤ s ∧ s ≤ 100000) (hb : 0 ≤ b ∧ b ≤ 1000000) : (0 ≤ docA n r a s w ∧ docA n r a s w ≤ b) ↔ s ≤ rg (latF n r w b) a.toNat := by
  rw [doc_best hN ha hw hs]
  obtain ⟨d, hL, hd⟩ := best_d hN ha hw hs
  obtain ⟨-, -, d', hL', hd'⟩ := lat_parts hN hw hb
  have hI : INF = 9223372036854775807 := rfl
  rw [hd' a.toNat (by omega), ← least_back (n := n.toNat) (by omega) (by omega) (by omega) (by omega) hL hL']
  omega
end
theorem walk_later_le {E : Ed} {n : Nat} {H : Int} (hE : E.OK n H) {v t t' w s : Int} (h : Walk E v t w s) (ht : t ≤ t') : ∃ s', Walk E v t' w s' ∧ s ≤ s' ∧ s' ≤ max t' H + 10000 * (s - t) := by
  induction h with
  | here => exact ⟨t', .here, ht, by omega⟩
  | @step s0 j hw hj ih =>
    obtain ⟨s', h1, h2, h3⟩ := ih
    have h4 := walk_lo hE hw
    have h5 := hE.up j hj s0
    have h6 := hE.bnd j hj s'
    exact ⟨_, .step h1 hj, hE.mono j hj _ _ h2, by omega⟩
section
variable {n : Int} {r : List (List D)} {a w s s' b : Int}
theorem doc_mono (hN : netB n r = true) (ha : 0 ≤ a ∧ a < n) (hw : 0 ≤ w ∧ w < n) (hs : 0 ≤ s) (hss : s ≤ s') (hs' : s' ≤ 100000) : (bestF n r a s w < 0 ↔ bestF n r a s' w < 0) ∧ (0 ≤ bestF n r a s w → bestF n r a s w ≤ bestF n r a s' w) := by
  obtain ⟨d, hL, hd⟩ := best_d hN ha hw (s := s) (by omega)
  obtain ⟨d', hL', hd'⟩ := best_d hN ha hw (s := s') (by omega)
  have hb := (best_le hN (to := w) ha (t := s) (by omega)).2
  have hI : INF = 9223372036854775807 := rfl
  have hwn : ((w.toNat : Nat) : Int) = w := by omega
  have h1 : d w.toNat < INF → d' w.toNat < INF := fun h => by
    obtain ⟨x, h2, h3, h4⟩ := walk_later_le (edR_ok hN) (hL.2.1 w.toNat (by omega) h) hss
    have h5 := hL'.2.2 _ _ h2
    rw [Int.toNat_natCast] at h5
    omega
  have h2 : d' w.toNat < INF → d w.toNat ≤ d' w.toNat := fun h => by
    obtain ⟨x, h2, h3⟩ := walk_sooner (edR_ok hN) (hL'.2.1 w.toNat (by omega) h) hss
    have h5 := hL.2.2 _ _ h2
    rw [Int.toNat_natCast] at h5
    omega
  omega
end
section
variable {n : Int} {r v : List (List D)} {x z : List D} {h t : Int}
theorem cov_iff (hN : netB n r = true) (hx : vehB n x = true) (hz : zonB n z = true) (ht : 0 ≤ t ∧ t ≤ 100000) :
    covB n r x z t = true ↔ (ix x 2 ≤ t ∧ t < ix x 3) ∧ ableB x z = true ∧ 0 ≤ bestF n r (ix x 0) t (ix z 0) ∧ bestF n r (ix x 0) t (ix z 0) ≤ t + ix z 2 := by
  unfold covB
  rw [Bool.and_eq_true, Bool.and_eq_true, decide_eq_true_iff, decide_eq_true_iff, doc_best hN (veh_parts hx).1 (zon_parts hz).1 ht, and_assoc]
structure PvInv (n : Int) (r v : List (List D)) (z : List D) (h t : Int) (i : Nat) (s : Pv) : Prop where
  no : s.c = false → s.to = t ∧ ∀ j, j < i → covB n r (v.getD j []) z t = false
  yes : s.c = true → ∃ j, j < i ∧ ∀ u, t ≤ u → u < s.to → u < h → covB n r (v.getD j []) z u = true
  nx : ∀ j, j < i → covB n r (v.getD j []) z t = false → ∀ u, t < u → u < s.nx → u < h → covB n r (v.getD j []) z u = false
theorem inv_pv {i : Nat} {s : Pv} (hN : netB n r = true) (hv : vehs n v = true) (hz : zonB n z = true) (ht : 0 ≤ t ∧ t < h) (hh : h ≤ 100000) (hi : i < v.length) (hs : okPv t h s) (I : PvInv n r v z h t i s) : PvInv n r v z h t (i + 1) (stV n r z t (v.getD i []) s) := by
  have hx : vehB n (v.getD i []) = true := veh_of hv hi
  obtain ⟨x0, x1, x2, x3⟩ := veh_parts hx
  obtain ⟨z0, z1, z2⟩ := zon_parts hz
  have hc := fun {u : Int} (hu : 0 ≤ u ∧ u ≤ 100000) => cov_iff hN hx hz hu
  have hle := fun {u b : Int} (hu : 0 ≤ u ∧ u ≤ 100000) (hb : 0 ≤ b ∧ b ≤ 1000000) => doc_le (b := b) hN x0 z0 hu hb
  have hdb := fun {u : Int} (hu : 0 ≤ u ∧ u ≤ 100000) => doc_best hN x0 z0 hu
  have hfalse : ∀ {u : Int}, (0 ≤ u ∧ u ≤ 100000) → ¬ ((ix (v.getD i []) 2 ≤ u ∧ u < ix (v.getD i []) 3) ∧ ableB (v.getD i []) z = true ∧ 0 ≤ bestF n r (ix (v.getD i []) 0) u (ix z 0) ∧ bestF n r (ix (v.getD i []) 0) u (ix z 0) ≤ u + ix z 2) → covB n r (v.getD i []) z u = false := fun hu hn => by
    cases hcv : covB n r (v.getD i []) z _ with
    | false => rfl
    | true => exact absurd ((hc hu).1 hcv) hn
  have keep : ∀ {s' : Pv}, s'.c = s.c → s'.to = s.to → s'.nx ≤ s.nx → covB n r (v.getD i []) z t = false → (∀ u, t < u → u < s'.nx → u < h → covB n r (v.getD i []) z u = false) → PvInv n r v z h t (i + 1) s' := fun {s'} e1 e2 e3 e4 e5 => by
    refine ⟨fun hs0 => ?_, fun hs1 => ?_, fun j hj hjc u hu1 hu2 hu3 => ?_⟩
    · rw [e1] at hs0
      obtain ⟨a1, a2⟩ := I.no hs0
      refine ⟨by rw [e2]; exact a1, fun j hj => ?_⟩
      by_cases e : j = i
      · rw [e]; exact e4
      · exact a2 j (by omega)
    · rw [e1] at hs1
      obtain ⟨j, a1, a2⟩ := I.yes hs1
      exact ⟨j, by omega, fun u u1 u2 u3 => a2 u u1 (by omega) u3⟩
    · by_cases e : j = i
      · rw [e]; exact e5 u hu1 hu2 hu3
      · exact I.nx j (by omega) hjc u hu1 (by omega) hu3
  unfold stV
  split
  · rename_i c1
    exact keep rfl rfl (Int.le_refl _) (hfalse (by omega) fun hn => c1.elim (fun h => by rw [h] at hn; exact absurd hn.2.1 (by simp)) fun h => by omega) fun u u1 u2 u3 => hfalse (by omega) fun hn => c1.elim (fun h => by rw [h] at hn; exact absurd hn.2.1 (by simp)) fun h => by omega
  · rename_i c1
    have c1a : ableB (v.getD i []) z = true := by
      cases ha : ableB (v.getD i []) z with
      | true => rfl
      | false => exact absurd (.inl ha) c1
    have c1b : t < ix (v.getD i []) 3 := by
      rcases Int.lt_or_le t (ix (v.getD i []) 3) with h | h
      · exact h
      · exact absurd (.inr h) c1
    split
    · rename_i c2
      have m := mn_parts s.nx (ix (v.getD i []) 2)
      exact keep rfl rfl (by simp only; omega) (hfalse (by omega) fun hn => by omega) fun u u1 u2 u3 => hfalse (by omega) fun hn => by simp only at u2; omega
    · rename_i c2
      split
      · rename_i c3
        have m1 := mn_parts (latU n r z t (ix (v.getD i []) 0) + 1) (ix (v.getD i []) 3)
        have m2 := mx_parts s.to (mn (latU n r z t (ix (v.getD i []) 0) + 1) (ix (v.getD i []) 3))
        have hcov : ∀ u, t ≤ u → u < mn (latU n r z t (ix (v.getD i []) 0) + 1) (ix (v.getD i []) 3) → u < h → covB n r (v.getD i []) z u = true := fun u u1 u2 u3 => by
          have h1 : u ≤ rg (latF n r (ix z 0) (t + ix z 2)) (ix (v.getD i []) 0).toNat := by
            have : latU n r z t (ix (v.getD i []) 0) = rg (latF n r (ix z 0) (t + ix z 2)) (ix (v.getD i []) 0).toNat := rfl
            omega
          have h2 := (hle (u := u) (b := t + ix z 2) (by omega) (by omega)).2 h1
          rw [hdb (by omega)] at h2
          exact (hc (by omega)).2 ⟨by omega, c1a, by omega, by omega⟩
        refine ⟨(fun h => by cases h), fun _ => ?_, fun j hj hjc u hu1 hu2 hu3 => ?_⟩
        · rcases m2.2 with e | e
          · cases hsc : s.c with
            | true =>
              obtain ⟨j, a1, a2⟩ := I.yes hsc
              exact ⟨j, by omega, fun u u1 u2 u3 => a2 u u1 (by simp only at u2; omega) u3⟩
            | false =>
              have := (I.no hsc).1
              exact ⟨i, by omega, fun u u1 u2 u3 => hcov u u1 (by simp only at u2; omega) u3⟩
          · exact ⟨i, by omega, fun u u1 u2 u3 => hcov u u1 (by simp only at u2; omega) u3⟩
        · by_cases e : j = i
          · rw [e, hcov t (Int.le_refl _) (by omega) (by omega)] at hjc
            cases hjc
          · exact I.nx j (by omega) hjc u hu1 hu2 hu3
      · rename_i c3
        have hnot : covB n r (v.getD i []) z t = false := hfalse (by omega) fun hn => by
          have h1 := (hle (u := t) (b := t + ix z 2) (by omega) (by omega)).1 (by rw [hdb (by omega)]; exact hn.2.2)
          exact c3 h1
        split
        · rename_i c4
          have m1 := mx_parts (t + 1) (bestF n r (ix (v.getD i []) 0) t (ix z 0) - ix z 2)
          have m2 := mn_parts s.nx (mx (t + 1) (bestF n r (ix (v.getD i []) 0) t (ix z 0) - ix z 2))
          refine keep rfl rfl (by simp only; omega) hnot fun u u1 u2 u3 => hfalse (by omega) fun hn => ?_
          simp only at u2
          have := (doc_mono hN x0 z0 ht.1 (by omega : t ≤ u) (by omega)).2 c4
          omega
        · rename_i c4
          refine keep rfl rfl (Int.le_refl _) hnot fun u u1 u2 u3 => hfalse (by omega) fun hn => ?_
          have := (doc_mono hN x0 z0 ht.1 (by omega : t ≤ u) (by omega)).1.1 (by omega)
          omega
theorem inv_run (hN : netB n r = true) (hv : vehs n v = true) (hz : zonB n z = true) (ht : 0 ≤ t ∧ t < h) (hh : h ≤ 100000) : ∀ (k i : Nat) (s : Pv), i + k ≤ v.length → okPv t h s → PvInv n r v z h t i s → PvInv n r v z h t (i + k) (runV n r v z t i k s)
  | 0, _, _, _, _, I => I
  | k + 1, i, s, hi, hs, I => by
    have := inv_run hN hv hz ht hh k (i + 1) _ (by omega) (pv_step hN (veh_of hv (by omega : i < v.length)) hz ht hh hs) (inv_pv hN hv hz ht hh (by omega) hs I)
    rw [show i + (k + 1) = i + 1 + k by omega]
    exact this
theorem secs_iff {u : Int} : secsF n r v z u = true ↔ ∃ j, j < v.length ∧ covB n r (v.getD j []) z u = true := by
  unfold secsF anyC
  rw [Bool.not_eq_true', allFrom_false]
  constructor
  · rintro ⟨j, -, h1, h2⟩
    exact ⟨j, by omega, by simpa using h2⟩
  · rintro ⟨j, h1, h2⟩
    exact ⟨j, Nat.zero_le _, by omega, by rw [h2]; rfl⟩
theorem piece_hom (hP : okP n r v z h) (ht : 0 ≤ t ∧ t < h) : ∀ u, t ≤ u → u < toP n r v z h t → secsF n r v z u = (pvAt n r v z h t).c := by
  obtain ⟨g1, g2⟩ := to_gt hP ht
  have hP' := hP
  obtain ⟨hN, hv, hz, -, h0, h1⟩ := hP'
  obtain ⟨s1, s2, s3, s4⟩ := pv_at hP ht
  have hI := inv_run hN hv hz ht h1 v.length 0 ⟨false, t, h⟩ (by omega) ⟨fun e => absurd e (by simp), ⟨Int.le_refl _, by simp only; omega⟩, by simp only; omega, Int.le_refl _⟩ ⟨fun _ => ⟨rfl, fun j hj => by omega⟩, (fun e => by cases e), fun j hj => by omega⟩
  rw [Nat.zero_add] at hI
  have hI : PvInv n r v z h t v.length (pvAt n r v z h t) := hI
  intro u u1 u2
  unfold toP at u2 g2
  have m1 := mn_parts (if (pvAt n r v z h t).c then (pvAt n r v z h t).to else mx (t + 1) (pvAt n r v z h t).nx) h
  have m2 := mx_parts (t + 1) (pvAt n r v z h t).nx
  cases hc : (pvAt n r v z h t).c with
  | true =>
    rw [hc] at m1 u2
    simp only [if_true] at m1 u2
    obtain ⟨j, a1, a2⟩ := hI.yes hc
    exact secs_iff.2 ⟨j, a1, a2 u u1 (by omega) (by omega)⟩
  | false =>
    rw [hc] at m1 u2
    simp only [Bool.false_eq_true, if_false] at m1 u2
    obtain ⟨-, a2⟩ := hI.no hc
    cases hs : secsF n r v z u with
    | false => rfl
    | true =>
      obtain ⟨j, b1, b2⟩ := secs_iff.1 hs
      by_cases e : u = t
      · rw [e, a2 j b1] at b2; cases b2
      · rw [hI.nx j b1 (a2 j b1) u (by omega) (by omega) (by omega)] at b2; cases b2
end
theorem getD_setTo (g : List (List D)) (x : Int) (hg : 0 < g.length) : (setTo g x).getD (g.length - 1) [] = [(g.getD (g.length - 1) []).getD 0 default, (g.getD (g.length - 1) []).getD 1 default, .i x] := by
  unfold setTo
  rw [List.getD_eq_getElem?_getD, List.getElem?_set_self (by omega)]
  rfl
theorem setTo_setTo (g : List (List D)) (x y : Int) (hg : 0 < g.length) : setTo (setTo g x) y = setTo g y := by
  have e : setTo (setTo g x) y = (setTo g x).set (g.length - 1) [((setTo g x).getD (g.length - 1) []).getD 0 default, ((setTo g x).getD (g.length - 1) []).getD 1 default, .i y] := by
    unfold setTo
    simp only [List.length_set]
  rw [e, getD_setTo _ _ hg]
  unfold setTo
  rw [List.set_set]
  rfl
theorem setTo_app (g : List (List D)) (a b c : D) (y : Int) : setTo (g ++ [[a, b, c]]) y = g ++ [[a, b, .i y]] := by
  unfold setTo
  simp only [List.length_append, List.length_cons, List.length_nil, Nat.zero_add, Nat.add_sub_cancel]
  rw [get_last, set_last]
  rfl
theorem ref_split (p : Int → Bool) (i : Int) : ∀ (k l : Nat) (t : Int) (s : List (List D) × Bool), refT p i (k + l) t s = refT p i l (t + k) (refT p i k t s)
  | 0, l, t, s => by simp [refT]
  | k + 1, l, t, s => by
    rw [show k + 1 + l = (k + l) + 1 by omega]
    simp only [refT]
    rw [ref_split p i k l, show t + 1 + (k : Int) = t + ((k + 1 : Nat) : Int) by omega]
theorem ref_open (p : Int → Bool) (i : Int) : ∀ (k : Nat) (t : Int) (g : List (List D)), 0 < g.length → (∀ u, t ≤ u → u < t + k → p u = false) → 0 < k → refT p i k t (g, true) = (setTo g (t + k), true)
  | 1, t, g, hg, hp, _ => by
    simp only [refT, gapT]
    rw [hp t (Int.le_refl _) (by omega)]
    rfl
  | k + 2, t, g, hg, hp, _ => by
    rw [refT]
    have e : gapT i t (p t) (g, true) = (setTo g (t + 1), true) := by
      unfold gapT
      rw [hp t (Int.le_refl _) (by omega)]
      rfl
    rw [e, ref_open p i (k + 1) (t + 1) _ (by rw [setTo_len]; exact hg) (fun u u1 u2 => hp u (by omega) (by omega)) (by omega), setTo_setTo _ _ _ hg, show t + 1 + ((k + 1 : Nat) : Int) = t + ((k + 2 : Nat) : Int) by omega]
theorem ref_cov (p : Int → Bool) (i : Int) : ∀ (k : Nat) (t : Int) (s : List (List D) × Bool), (∀ u, t ≤ u → u < t + k → p u = true) → 0 < k → refT p i k t s = (s.1, false)
  | 1, t, s, hp, _ => by
    simp only [refT, gapT]
    rw [hp t (Int.le_refl _) (by omega)]
    rfl
  | k + 2, t, s, hp, _ => by
    rw [refT]
    have e : gapT i t (p t) s = (s.1, false) := by
      unfold gapT
      rw [hp t (Int.le_refl _) (by omega)]
      rfl
    rw [e, ref_cov p i (k + 1) (t + 1) _ (fun u u1 u2 => hp u (by omega) (by omega)) (by omega)]
theorem ref_piece (p : Int → Bool) (i : Int) (c : Bool) (k : Nat) (t : Int) (s : List (List D) × Bool) (hk : 0 < k) (hs : s.2 = true → 0 < s.1.length) (hp : ∀ u, t ≤ u → u < t + k → p u = c) : refT p i k t s = gapP i [.i t, .i (t + k), .b c] s := by
  obtain ⟨g, o⟩ := s
  cases c with
  | true =>
    rw [ref_cov p i k t _ hp hk]
    rfl
  | false =>
    cases o with
    | true =>
      rw [ref_open p i k t g (hs rfl) hp hk]
      rfl
    | false =>
      match k, hk with
      | 1, _ =>
        simp only [refT, gapT]
        rw [hp t (Int.le_refl _) (by omega)]
        rfl
      | k + 2, _ =>
        rw [refT]
        have e : gapT i t (p t) (g, false) = (g ++ [[.i i, .i t, .i (t + 1)]], true) := by
          unfold gapT
          rw [hp t (Int.le_refl _) (by omega)]
          rfl
        rw [e, ref_open p i (k + 1) (t + 1) _ (by simp) (fun u u1 u2 => hp u (by omega) (by omega)) (by omega), setTo_app, show t + 1 + ((k + 1 : Nat) : Int) = t + ((k + 2 : Nat) : Int) by omega]
        rfl
theorem gapP_open (i : Int) (e : List D) (s : List (List D) × Bool) (hs : s.2 = true → 0 < s.1.length) : (gapP i e s).2 = true → 0 < (gapP i e s).1.length := by
  unfold gapP
  split
  · intro h; cases h
  · split
    · rename_i h2
      intro _
      simp only [setTo_len]
      exact hs h2
    · intro _
      simp
theorem gaps_zone {n : Int} {r v : List (List D)} {z : List D} {h : Int} (i : Int) (hP : okP n r v z h) : ∀ (f : Nat) (t : Int) (s : List (List D) × Bool), 0 ≤ t → t ≤ h → (h - t).toNat ≤ f → (s.2 = true → 0 < s.1.length) → gapsF i (pieceL n r v z h f t) s = refT (secsF n r v z) i (h - t).toNat t s
  | 0, t, s, h0, h1, hf, _ => by
    rw [show (h - t).toNat = 0 by omega]
    rfl
  | f + 1, t, s, h0, h1, hf, hs => by
    by_cases ht : t < h
    · obtain ⟨g1, g2⟩ := to_gt hP ⟨h0, ht⟩
      simp only [pieceL, if_pos ht, gapsF]
      rw [show (h - t).toNat = (toP n r v z h t - t).toNat + (h - toP n r v z h t).toNat by omega, ref_split, show t + ((toP n r v z h t - t).toNat : Int) = toP n r v z h t by omega,
        ref_piece (secsF n r v z) i (pvAt n r v z h t).c (toP n r v z h t - t).toNat t s (by omega) hs (fun u u1 u2 => piece_hom hP ⟨h0, ht⟩ u u1 (by omega)), show t + ((toP n r v z h t - t).toNat : Int) = toP n r v z h t by omega]
      exact gaps_zone i hP f _ _ (by omega) g2 (by omega) (gapP_open i _ s hs)
    · simp only [pieceL, if_neg ht, gapsF]
      rw [show (h - t).toNat = 0 by omega]
      rfl
theorem secs_same (n : Int) (r v : List (List D)) (z : List D) : secsF n r v (mk3 (.i (ix z 0)) (.i (ix z 1)) (.i (ix z 2))) = secsF n r v z := rfl
theorem gaps_same {n : Int} {r v z : List (List D)} {h : Int} (hG : okG n r v z h) : ∀ (k i : Nat) (g : List (List D)), i + k ≤ z.length → gapsZ n r v z h i k g = refZ n r v z h i k g
  | 0, _, _, _ => rfl
  | k + 1, i, g, hi => by
    have hG' := hG
    obtain ⟨hN, hv, hz, hvl, hzl, hh0, hh1⟩ := hG'
    simp only [gapsZ, refZ]
    rw [gaps_zone i (h := h) (z := mk3 (.i (ix (z.getD i []) 0)) (.i (ix (z.getD i []) 1)) (.i (ix (z.getD i []) 2))) ⟨hN, hv, zon_of hz (by omega : i < z.length), hvl, hh0, hh1⟩ h.toNat 0 (g, false) (Int.le_refl _) hh0 (by omega) (fun e => by cases e), secs_same, Int.sub_zero]
    exact gaps_same hG k (i + 1) _ (by omega)
end Go.Proofs.Ytgmefblkmidglaa
namespace Go.Proofs.Ytgmefblkmidglaa
open Go.Lite
set_option linter.unusedVariables false
noncomputable section
def gZ (g : List (List D)) (k : Nat) : Int := ix (g.getD k []) 0
def gF (g : List (List D)) (k : Nat) : Int := ix (g.getD k []) 1
def gT (g : List (List D)) (k : Nat) : Int := ix (g.getD k []) 2
end
theorem getD_app_l {g h : List (List D)} {k : Nat} (hk : k < g.length) : (g ++ h).getD k [] = g.getD k [] := by
  rw [List.getD_eq_getElem?_getD, List.getElem?_append_left hk, ← List.getD_eq_getElem?_getD]
theorem getD_app_r {g h : List (List D)} {k : Nat} : (g ++ h).getD (g.length + k) [] = h.getD k [] := by
  rw [List.getD_eq_getElem?_getD, List.getElem?_append_right (by omega), show g.length + k - g.length = k by omega, ← List.getD_eq_getElem?_getD]
theorem setTo_get (g : List (List D)) (x : Int) {k : Nat} (hk : k < g.length) : gZ (setTo g x) k = gZ g k ∧ gF (setTo g x) k = gF g k ∧ gT (setTo g x) k = if k = g.length - 1 then x else gT g k := by
  unfold gZ gF gT
  by_cases e : k = g.length - 1
  · have := getD_setTo g x (by omega)
    rw [e, this, if_pos rfl]
    exact ⟨rfl, rfl, rfl⟩
  · have h : (setTo g x).getD k [] = g.getD k [] := by
      unfold setTo
      rw [List.getD_eq_getElem?_getD, List.getElem?_set_ne (by omega), ← List.getD_eq_getElem?_getD]
    rw [h, if_neg e]
    exact ⟨rfl, rfl, rfl⟩
theorem setTo_more (g h : List (List D)) (x : Int) (hh : 0 < h.length) : setTo (g ++ h) x = g ++ setTo h x := by
  unfold setTo
  have e : (g ++ h).length - 1 = g.length + (h.length - 1) := by rw [List.length_append]; omega
  rw [e, getD_app_r, List.set_append_right _ _ (by omega), show g.length + (h.length - 1) - g.length = h.length - 1 by omega]
structure Runs (p : Int → Bool) (i t : Int) (g : List (List D)) (o : Bool) : Prop where
  rows : ∀ k, k < g.length → gZ g k = i ∧ 0 ≤ gF g k ∧ gF g k < gT g k ∧ gT g k ≤ t
  apart : ∀ k, k + 1 < g.length → gT g k < gF g (k + 1)
  last : 0 < g.length → (o = true → gT g (g.length - 1) = t) ∧ (o = false → gT g (g.length - 1) < t)
  some : o = true → 0 < g.length
  mem : ∀ u, 0 ≤ u → u < t → ((∃ k, k < g.length ∧ gF g k ≤ u ∧ u < gT g k) ↔ p u = false)
theorem runs_step {p : Int → Bool} {i t : Int} {g0 g : List (List D)} {o : Bool} (ht : 0 ≤ t) (R : Runs p i t g o) : ∃ g' o', gapT i t (p t) (g0 ++ g, o) = (g0 ++ g', o') ∧ Runs p i (t + 1) g' o' := by
  cases hp : p t with
  | true =>
    refine ⟨g, false, rfl, fun k hk => ?_, R.apart, fun hg => ⟨(fun h => by cases h), fun _ => ?_⟩, (fun h => by cases h), fun u h0 h1 => ?_⟩
    · have := R.rows k hk
      omega
    · have := R.rows (g.length - 1) (by omega)
      omega
    · by_cases e : u = t
      · subst e
        rw [hp]
        constructor
        · rintro ⟨k, k1, k2, k3⟩
          have := R.rows k k1
          omega
        · intro h; cases h
      · exact R.mem u h0 (by omega)
  | false =>
    cases o with
    | true =>
      have hg := R.some rfl
      have hlast := (R.last hg).1 rfl
      refine ⟨setTo g (t + 1), true, by unfold gapT; simp only [Bool.false_eq_true, if_false, if_true]; rw [setTo_more _ _ _ hg], fun k hk => ?_, fun k hk => ?_, fun _ => ⟨fun _ => ?_, (fun h => by cases h)⟩, fun _ => by rw [setTo_len]; exact hg, fun u h0 h1 => ?_⟩
      · rw [setTo_len] at hk
        obtain ⟨s1, s2, s3⟩ := setTo_get g (t + 1) hk
        have := R.rows k hk
        rw [s1, s2, s3]
        split
        · rename_i e
          rw [e] at this
          exact ⟨by rw [e]; exact this.1, by rw [e]; omega, by rw [e]; omega, Int.le_refl _⟩
        · omega
      · rw [setTo_len] at hk
        obtain ⟨-, -, s3⟩ := setTo_get g (t + 1) (show k < g.length by omega)
        obtain ⟨-, s2, -⟩ := setTo_get g (t + 1) hk
        rw [s3, s2, if_neg (by omega)]
        exact R.apart k hk
      · rw [setTo_len]
        obtain ⟨-, -, s3⟩ := setTo_get g (t + 1) (show g.length - 1 < g.length by omega)
        rw [s3, if_pos rfl]
      · rw [setTo_len]
        by_cases e : u = t
        · subst e
          rw [hp]
          refine ⟨fun _ => rfl, fun _ => ⟨g.length - 1, by omega, ?_⟩⟩
          obtain ⟨-, s2, s3⟩ := setTo_get g (u + 1) (show g.length - 1 < g.length by omega)
          have := R.rows (g.length - 1) (by omega)
          rw [s2, s3, if_pos rfl]
          omega
        · rw [← R.mem u h0 (by omega)]
          constructor
          · rintro ⟨k, k1, k2, k3⟩
            obtain ⟨-, s2, s3⟩ := setTo_get g (t + 1) k1
            rw [s2] at k2
            rw [s3] at k3
            refine ⟨k, k1, k2, ?_⟩
            split at k3
            · rename_i e2
              rw [e2, hlast]; omega
            · exact k3
          · rintro ⟨k, k1, k2, k3⟩
            obtain ⟨-, s2, s3⟩ := setTo_get g (t + 1) k1
            refine ⟨k, k1, by rw [s2]; exact k2, ?_⟩
            rw [s3]
            split
            · omega
            · exact k3
    | false =>
      have gl : ∀ k, k < g.length → gZ (g ++ [[.i i, .i t, .i (t + 1)]]) k = gZ g k ∧ gF (g ++ [[.i i, .i t, .i (t + 1)]]) k = gF g k ∧ gT (g ++ [[.i i, .i t, .i (t + 1)]]) k = gT g k := fun k hk => by
        unfold gZ gF gT
        rw [getD_app_l hk]
        exact ⟨rfl, rfl, rfl⟩
      have gr : gZ (g ++ [[.i i, .i t, .i (t + 1)]]) g.length = i ∧ gF (g ++ [[.i i, .i t, .i (t + 1)]]) g.length = t ∧ gT (g ++ [[.i i, .i t, .i (t + 1)]]) g.length = t + 1 := by
        unfold gZ gF gT
        rw [get_last]
        exact ⟨rfl, rfl, rfl⟩
      refine ⟨g ++ [[.i i, .i t, .i (t + 1)]], true, by unfold gapT; simp only [Bool.false_eq_true, if_false]; rw [List.append_assoc], fun k hk => ?_, fun k hk => ?_, fun _ => ⟨fun _ => ?_, (fun h => by cases h)⟩, fun _ => by simp, fun u h0 h1 => ?_⟩
      · simp only [List.length_append, List.length_cons, List.length_nil] at hk
        by_cases e : k = g.length
        · rw [e, gr.1, gr.2.1, gr.2.2]
          omega
        · obtain ⟨s1, s2, s3⟩ := gl k (by omega)
          have := R.rows k (by omega)
          rw [s1, s2, s3]
          omega
      · simp only [List.length_append, List.length_cons, List.length_nil] at hk
        obtain ⟨-, -, s3⟩ := gl k (by omega)
        rw [s3]
        by_cases e : k + 1 = g.length
        · rw [e, gr.2.1]
          have := (R.last (by omega)).2 rfl
          rwa [show g.length - 1 = k by omega] at this
        · rw [(gl (k + 1) (by omega)).2.1]
          exact R.apart k (by omega)
      · simp only [List.length_append, List.length_cons, List.length_nil, Nat.zero_add, Nat.add_sub_cancel]
        exact gr.2.2
      · simp only [List.length_append, List.length_cons, List.length_nil]
        by_cases e : u = t
        · subst e
          rw [hp]
          exact ⟨fun _ => rfl, fun _ => ⟨g.length, by omega, by rw [gr.2.1]; exact Int.le_refl _, by rw [gr.2.2]; omega⟩⟩
        · rw [← R.mem u h0 (by omega)]
          constructor
          · rintro ⟨k, k1, k2, k3⟩
            by_cases e2 : k = g.length
            · rw [e2, gr.2.1] at k2
              omega
            · obtain ⟨-, s2, s3⟩ := gl k (by omega)
              exact ⟨k, by omega, by rw [← s2]; exact k2, by rw [← s3]; exact k3⟩
          · rintro ⟨k, k1, k2, k3⟩
            obtain ⟨-, s2, s3⟩ := gl k k1
            exact ⟨k, by omega, by rw [s2]; exact k2, by rw [s3]; exact k3⟩
theorem runs_all {p : Int → Bool} {i : Int} {g0 : List (List D)} : ∀ (k : Nat) (t : Int) (g : List (List D)) (o : Bool), 0 ≤ t → Runs p i t g o → ∃ g' o', refT p i k t (g0 ++ g, o) = (g0 ++ g', o') ∧ Runs p i (t + k) g' o'
  | 0, t, g, o, _, R => ⟨g, o, rfl, by simpa using R⟩
  | k + 1, t, g, o, ht, R => by
    obtain ⟨g1, o1, h1, R1⟩ := runs_step (g0 := g0) ht R
    obtain ⟨g2, o2, h2, R2⟩ := runs_all k (t + 1) g1 o1 (by omega) R1
    refine ⟨g2, o2, ?_, by rw [show t + ((k + 1 : Nat) : Int) = t + 1 + k by omega]; exact R2⟩
    simp only [refT]
    rw [h1, h2]
structure Gaps (q : Nat → Int → Bool) (h : Int) (m : Nat) (g : List (List D)) : Prop where
  rows : ∀ k, k < g.length → (0 ≤ gZ g k ∧ gZ g k < m) ∧ 0 ≤ gF g k ∧ gF g k < gT g k ∧ gT g k ≤ h
  apart : ∀ k, k + 1 < g.length → gZ g k < gZ g (k + 1) ∨ gZ g k = gZ g (k + 1) ∧ gT g k < gF g (k + 1)
  mem : ∀ i, i < m → ∀ u, 0 ≤ u → u < h → ((∃ k, k < g.length ∧ gZ g k = (i : Int) ∧ gF g k ≤ u ∧ u < gT g k) ↔ q i u = false)
theorem gaps_zones {n : Int} {r v z : List (List D)} {h : Int} (hh : 0 ≤ h) : ∀ (k i : Nat) (g : List (List D)), Gaps (fun i => secsF n r v (z.getD i [])) h i g → Gaps (fun i => secsF n r v (z.getD i [])) h (i + k) (refZ n r v z h i k g)
  | 0, i, g, G => G
  | k + 1, i, g, G => by
    obtain ⟨g', o', h1, R⟩ := runs_all (p := secsF n r v (z.getD i [])) (i := (i : Int)) (g0 := g) h.toNat 0 [] false (Int.le_refl _) ⟨fun k hk => by simp at hk, fun k hk => by simp at hk, fun hk => by simp at hk, (fun h => by cases h), fun u h0 h1 => by omega⟩
    rw [List.append_nil] at h1
    rw [show (0 : Int) + (h.toNat : Int) = h by omega] at R
    have := gaps_zones (n := n) (r := r) (v := v) (z := z) hh k (i + 1) (g ++ g') (by
      have gl : ∀ k, k < g.length → gZ (g ++ g') k = gZ g k ∧ gF (g ++ g') k = gF g k ∧ gT (g ++ g') k = gT g k := fun k hk => by
        unfold gZ gF gT
        rw [getD_app_l hk]
        exact ⟨rfl, rfl, rfl⟩
      have gr : ∀ k, gZ (g ++ g') (g.length + k) = gZ g' k ∧ gF (g ++ g') (g.length + k) = gF g' k ∧ gT (g ++ g') (g.length + k) = gT g' k := fun k => by
        unfold gZ gF gT
        rw [getD_app_r]
        exact ⟨rfl, rfl, rfl⟩
      refine ⟨fun k hk => ?_, fun k hk => ?_, fun j hj u u0 u1 => ?_⟩
      · rw [List.length_append] at hk
        by_cases e : k < g.length
        · obtain ⟨s1, s2, s3⟩ := gl k e
          have := G.rows k e
          rw [s1, s2, s3]
          omega
        · obtain ⟨s1, s2, s3⟩ := gr (k - g.length)
          rw [show g.length + (k - g.length) = k by omega] at s1 s2 s3
          have := R.rows (k - g.length) (by omega)
          rw [s1, s2, s3]
          omega
      · rw [List.length_append] at hk
        by_cases e : k < g.length
        · obtain ⟨s1, s2, s3⟩ := gl k e
          by_cases e2 : k + 1 < g.length
          · obtain ⟨t1, t2, t3⟩ := gl (k + 1) e2
            rw [s1, s3, t1, t2]
            exact G.apart k e2
          · obtain ⟨t1, t2, t3⟩ := gr 0
            rw [show g.length + 0 = k + 1 by omega] at t1 t2
            have h3 := G.rows k e
            have h4 := R.rows 0 (by omega)
            left
            rw [s1, t1]
            omega
        · obtain ⟨s1, s2, s3⟩ := gr (k - g.length)
          obtain ⟨t1, t2, t3⟩ := gr (k - g.length + 1)
          rw [show g.length + (k - g.length) = k by omega] at s1 s2 s3
          rw [show g.length + (k - g.length + 1) = k + 1 by omega] at t1 t2
          right
          have h3 := R.rows (k - g.length) (by omega)
          have h4 := R.rows (k - g.length + 1) (by omega)
          rw [s1, t1, s3, t2]
          exact ⟨by omega, R.apart _ (by omega)⟩
      · rw [List.length_append]
        by_cases e : j < i
        · rw [← G.mem j e u u0 u1]
          constructor
          · rintro ⟨k, k1, k2, k3, k4⟩
            by_cases e2 : k < g.length
            · obtain ⟨s1, s2, s3⟩ := gl k e2
              exact ⟨k, e2, by rw [← s1]; exact k2, by rw [← s2]; exact k3, by rw [← s3]; exact k4⟩
            · obtain ⟨s1, s2, s3⟩ := gr (k - g.length)
              rw [show g.length + (k - g.length) = k by omega] at s1
              have := R.rows (k - g.length) (by omega)
              rw [s1] at k2
              omega
          · rintro ⟨k, k1, k2, k3, k4⟩
            obtain ⟨s1, s2, s3⟩ := gl k k1
            exact ⟨k, by omega, by rw [s1]; exact k2, by rw [s2]; exact k3, by rw [s3]; exact k4⟩
        · obtain rfl : j = i := by omega
          rw [← R.mem u u0 u1]
          constructor
          · rintro ⟨k, k1, k2, k3, k4⟩
            by_cases e2 : k < g.length
            · obtain ⟨s1, s2, s3⟩ := gl k e2
              have := G.rows k e2
              rw [s1] at k2
              omega
            · obtain ⟨s1, s2, s3⟩ := gr (k - g.length)
              rw [show g.length + (k - g.length) = k by omega] at s2 s3
              exact ⟨k - g.length, by omega, by rw [← s2]; exact k3, by rw [← s3]; exact k4⟩
          · rintro ⟨k, k1, k3, k4⟩
            obtain ⟨s1, s2, s3⟩ := gr k
            exact ⟨g.length + k, by omega, by rw [s1]; exact (R.rows k k1).1, by rw [s2]; exact k3, by rw [s3]; exact k4⟩)
    simp only [refZ]
    rw [h1]
    rw [show i + (k + 1) = i + 1 + k by omega]
    exact this
theorem gaps_in {q q' : Nat → Int → Bool} {h : Int} {m : Nat} {g g' : List (List D)} (G : Gaps q h m g) (G' : Gaps q' h m g') (hq : ∀ i, i < m → ∀ u, 0 ≤ u → u < h → q i u = true → q' i u = true) (k : Nat) (hk : k < g'.length) :
    ∃ j, j < g.length ∧ gZ g j = gZ g' k ∧ gF g j ≤ gF g' k ∧ gT g' k ≤ gT g j := by
  obtain ⟨⟨a1, a2⟩, a3, a4, a5⟩ := G'.rows k hk
  have hun : ∀ u, gF g' k ≤ u → u < gT g' k → ∃ j, j < g.length ∧ gZ g j = gZ g' k ∧ gF g j ≤ u ∧ u < gT g j := fun u u1 u2 => by
    have h1 := (G'.mem (gZ g' k).toNat (by omega) u (by omega) (by omega)).1 ⟨k, hk, by omega, u1, u2⟩
    have h2 : q (gZ g' k).toNat u = false := by
      cases hc : q (gZ g' k).toNat u with
      | false => rfl
      | true => rw [hq _ (by omega) u (by omega) (by omega) hc] at h1; cases h1
    obtain ⟨j, j1, j2, j3, j4⟩ := (G.mem (gZ g' k).toNat (by omega) u (by omega) (by omega)).2 h2
    exact ⟨j, j1, by omega, j3, j4⟩
  have hsort : ∀ d j, j + d + 1 < g.length → gZ g j < gZ g (j + d + 1) ∨ gZ g j = gZ g (j + d + 1) ∧ gT g j < gF g (j + d + 1) := fun d => by
    induction d with
    | zero => exact fun j hj => G.apart j hj
    | succ d ih =>
      intro j hj
      have h1 := ih j (by omega)
      have h2 := G.apart (j + d + 1) (by omega)
      have h3 := (G.rows (j + d + 1) (by omega)).2
      rw [show j + (d + 1) + 1 = j + d + 1 + 1 by omega]
      omega
  obtain ⟨j, j1, j2, j3, j4⟩ := hun (gF g' k) (Int.le_refl _) (by omega)
  refine ⟨j, j1, j2, j3, ?_⟩
  rcases Int.lt_or_le (gT g j) (gT g' k) with hlt | hle
  · exfalso
    obtain ⟨l, l1, l2, l3, l4⟩ := hun (gT g j) (by omega) hlt
    rcases Nat.lt_trichotomy j l with h | h | h
    · have := hsort (l - j - 1) j (by omega)
      rw [show j + (l - j - 1) + 1 = l by omega] at this
      omega
    · subst h
      omega
    · have := hsort (j - l - 1) l (by omega)
      rw [show l + (j - l - 1) + 1 = j by omega] at this
      have h3 := (G.rows j j1).2
      omega
  · exact hle
end Go.Proofs.Ytgmefblkmidglaa
namespace Go.Proofs.Ytgmefblkmidglaa
open Go.Lite
noncomputable section
def orI (a b : Int) : Int := IntKind.i64.wrap (BitVec.ofInt IntKind.i64.bits a ||| BitVec.ofInt IntKind.i64.bits b).toNat
def strX (a : Int) (x : List D) : List D := [.i (ix x 0), .i (orI (ix x 1) a), .i (ix x 2), .i (ix x 3)]
def strF (a : Int) (v : List (List D)) : Nat → Nat → List (List D) → List (List D)
  | _, 0, g => g
  | i, k + 1, g => strF a v (i + 1) k (g ++ [strX a (v.getD i [])])
def strL (a : Int) (v : List (List D)) : List (List D) := v.map (strX a)
end
theorem str_all (a : Int) (v : List (List D)) : ∀ (k i : Nat) (g : List (List D)), i + k = v.length → strF a v i k g = g ++ strL a (v.drop i)
  | 0, i, g, h => by
    rw [List.drop_eq_nil_of_le (by omega)]
    simp [strF, strL]
  | k + 1, i, g, h => by
    simp only [strF]
    rw [str_all a v k (i + 1) _ (by omega), List.append_assoc]
    have e : v.drop i = v.getD i [] :: v.drop (i + 1) := by
      rw [List.drop_eq_getElem_cons (by omega), List.getD_eq_getElem?_getD, List.getElem?_eq_getElem (by omega)]
      rfl
    rw [e]
    rfl
theorem bits_nat {a : Nat} (h : a ≤ 65535) : (BitVec.ofInt IntKind.i64.bits (a : Int)).toNat = a := by
  rw [BitVec.ofInt_natCast, BitVec.toNat_ofNat]
  exact Nat.mod_eq_of_lt (Nat.lt_of_le_of_lt h (by decide))
theorem and_nat {a b : Nat} (ha : a ≤ 65535) (hb : b ≤ 65535) : andI a b = ((a &&& b : Nat) : Int) := by
  unfold andI
  rw [BitVec.toNat_and, bits_nat ha, bits_nat hb]
  have : a &&& b ≤ a := Nat.and_le_left
  exact wrap_id (by omega) (by omega)
theorem or_nat {a b : Nat} (ha : a ≤ 65535) (hb : b ≤ 65535) : orI a b = ((a ||| b : Nat) : Int) ∧ a ||| b ≤ 65535 := by
  have h : a ||| b < 2 ^ 16 := Nat.or_lt_two_pow (by omega) (by omega)
  unfold orI
  rw [BitVec.toNat_or, bits_nat ha, bits_nat hb]
  exact ⟨wrap_id (by omega) (by omega), by omega⟩
theorem or_able {x a z : Int} (hx : 0 ≤ x ∧ x ≤ 65535) (ha : 0 ≤ a ∧ a ≤ 65535) (hz : 0 ≤ z ∧ z ≤ 65535) : (0 ≤ orI x a ∧ orI x a ≤ 65535) ∧ (andI x z = z → andI (orI x a) z = z) := by
  obtain ⟨x, rfl⟩ : ∃ k : Nat, x = k := ⟨x.toNat, by omega⟩
  obtain ⟨a, rfl⟩ : ∃ k : Nat, a = k := ⟨a.toNat, by omega⟩
  obtain ⟨z, rfl⟩ : ∃ k : Nat, z = k := ⟨z.toNat, by omega⟩
  obtain ⟨h1, h2⟩ := or_nat (a := x) (b := a) (by omega) (by omega)
  rw [h1, and_nat (a := x) (b := z) (by omega) (by omega), and_nat (a := x ||| a) (b := z) h2 (by omega)]
  refine ⟨by omega, fun h => ?_⟩
  have h : x &&& z = z := by omega
  have : (x ||| a) &&& z = z := by
    apply Nat.eq_of_testBit_eq
    intro i
    have hi := congrArg (fun n => n.testBit i) h
    simp only [Nat.testBit_and, Nat.testBit_or] at hi ⊢
    cases h1 : x.testBit i <;> cases h2 : a.testBit i <;> cases h3 : z.testBit i <;> simp_all
  omega
section
variable {n : Int} {r v : List (List D)} {x z : List D} {a w s t : Int}
theorem str_veh (hx : vehB n x = true) (ha : 0 ≤ a ∧ a ≤ 65535) : vehB n (strX a x) = true := by
  unfold vehB at hx ⊢
  have hx := of_decide_eq_true hx
  have h := (or_able (x := ix x 1) (a := a) (z := 0) (by omega) ha (by omega)).1
  refine decide_eq_true ?_
  show (0 ≤ ix x 0 ∧ ix x 0 < n) ∧ (0 ≤ orI (ix x 1) a ∧ orI (ix x 1) a ≤ 65535) ∧ (0 ≤ ix x 2 ∧ ix x 2 ≤ ix x 3) ∧ ix x 3 ≤ 100000
  omega
theorem str_cov (hx : vehB n x = true) (hz : zonB n z = true) (ha : 0 ≤ a ∧ a ≤ 65535) (h : covB n r x z t = true) : covB n r (strX a x) z t = true := by
  have hx := of_decide_eq_true hx
  have hz := of_decide_eq_true hz
  unfold covB at h ⊢
  rw [Bool.and_eq_true, Bool.and_eq_true] at h ⊢
  refine ⟨⟨h.1.1, ?_⟩, h.2⟩
  have h2 := h.1.2
  unfold ableB at h2 ⊢
  rw [beq_iff_eq] at h2 ⊢
  exact (or_able (x := ix x 1) (a := a) (z := ix z 1) (by omega) ha (by omega)).2 h2
theorem vehs_iff : vehs n v = true ↔ ∀ x ∈ v, vehB n x = true := by
  unfold vehs
  rw [allFrom_iff]
  constructor
  · intro h x hx
    obtain ⟨i, hi, rfl⟩ := List.mem_iff_getElem.1 hx
    have := h i (Nat.zero_le _) (by omega)
    unfold vehL at this
    rwa [List.getD_eq_getElem?_getD, List.getElem?_eq_getElem hi] at this
  · intro h j _ hj
    unfold vehL
    refine h _ ?_
    rw [List.getD_eq_getElem?_getD, List.getElem?_eq_getElem (by omega)]
    exact List.getElem_mem _
theorem secs_mem : secsF n r v z t = true ↔ ∃ x ∈ v, covB n r x z t = true := by
  rw [secs_iff]
  constructor
  · rintro ⟨j, h1, h2⟩
    refine ⟨_, ?_, h2⟩
    rw [List.getD_eq_getElem?_getD, List.getElem?_eq_getElem h1]
    exact List.getElem_mem _
  · rintro ⟨x, hx, h2⟩
    obtain ⟨i, hi, rfl⟩ := List.mem_iff_getElem.1 hx
    exact ⟨i, hi, by rwa [List.getD_eq_getElem?_getD, List.getElem?_eq_getElem hi]⟩
theorem str_vehs {m : List D} (hv : vehs n (v ++ [m]) = true) (ha : 0 ≤ a ∧ a ≤ 65535) : vehs n v = true ∧ vehs n (strL a v ++ [m]) = true := by
  rw [vehs_iff] at hv
  rw [vehs_iff, vehs_iff]
  refine ⟨fun x hx => hv x (List.mem_append_left _ hx), fun x hx => ?_⟩
  rcases List.mem_append.1 hx with h | h
  · obtain ⟨y, hy, rfl⟩ := List.mem_map.1 h
    exact str_veh (hv y (List.mem_append_left _ hy)) ha
  · exact hv x (List.mem_append_right _ h)
theorem str_secs {m : List D} (hv : vehs n v = true) (hz : zonB n z = true) (ha : 0 ≤ a ∧ a ≤ 65535) (h : secsF n r v z t = true) : secsF n r (strL a v ++ [m]) z t = true := by
  rw [secs_mem] at h ⊢
  obtain ⟨x, hx, hc⟩ := h
  exact ⟨strX a x, List.mem_append_left _ (List.mem_map_of_mem hx), str_cov (vehs_iff.1 hv x hx) hz ha hc⟩
theorem best_zero (hN : netB n r = true) (ha : 0 ≤ a ∧ a < n) (hw : 0 ≤ w ∧ w < n) (hs : 0 ≤ s ∧ s ≤ 100000) : (0 ≤ bestF n r a s w ∧ bestF n r a s w ≤ s) ↔ a = w := by
  obtain ⟨d, hL, hd⟩ := best_d hN ha hw hs
  have hI : INF = 9223372036854775807 := rfl
  have hE := edR_ok hN
  constructor
  · rintro ⟨h1, h2⟩
    have hlt : d w.toNat < INF := by omega
    have hwk := hL.2.1 w.toNat (by omega) hlt
    rcases walk_inv hwk with ⟨e, -⟩ | ⟨j, t', hj, e1, e2, hw2⟩
    · omega
    · have h3 := walk_lo hE hw2
      have h4 := hE.up j hj t'
      omega
  · rintro rfl
    have h1 := hL.2.2 a s .here
    have hlt : d a.toNat < INF := by omega
    have h2 := walk_lo hE (hL.2.1 a.toNat (by omega) hlt)
    omega
theorem cov_zero (hN : netB n r = true) (hx : vehB n x = true) (hz : zonB n z = true) (h0 : ix z 2 = 0) (ht : 0 ≤ t ∧ t ≤ 100000) :
    covB n r x z t = (ix x 0 == ix z 0 && (decide (ix x 2 ≤ t) && (decide (t < ix x 3) && ableB x z))) := by
  obtain ⟨x0, x1, x2, x3⟩ := veh_parts hx
  obtain ⟨z0, z1, z2⟩ := zon_parts hz
  rw [Bool.eq_iff_iff, cov_iff hN hx hz ht, h0, Int.add_zero, best_zero hN x0 z0 ht]
  simp only [Bool.and_eq_true, beq_iff_eq, decide_eq_true_iff]
  constructor
  · rintro ⟨⟨h1, h2⟩, h3, h4⟩
    exact ⟨h4, h1, h2, h3⟩
  · rintro ⟨h4, h1, h2, h3⟩
    exact ⟨⟨h1, h2⟩, h3, h4⟩
end
end Go.Proofs.Ytgmefblkmidglaa
namespace Go.Proofs.Ytgmefblkmidglaa
open Go.Lite
noncomputable section
def apB (g : List (List D)) (k : Nat) : Bool := decide (gZ g (k - 1) < gZ g k ∨ gZ g (k - 1) = gZ g k ∧ gT g (k - 1) < gF g k)
def rowT (g : List (List D)) (zs h : Int) (k : Nat) : Bool := decide ((0 ≤ gZ g k ∧ gZ g k < zs) ∧ (0 ≤ gF g k ∧ gF g k < gT g k) ∧ gT g k ≤ h) && (k == 0 || apB g k)
def tidyB (g : List (List D)) (zs h : Int) : Bool := allFrom (rowT g zs h) 0 g.length
def G31 (ds : List D) : T (List D) := match ds with
  | [g, zs, h] => .need (yes (g.L.length < big)) (.leaf [.b (tidyB g.L zs.I h.I)])
  | _ => .fail
def G31_2 (ds : List D) : T (Ex × List D) := match ds with
  | [g, zs, h, i] => .need (yes (g.L.length < big ∧ 0 ≤ i.I ∧ i.I ≤ g.L.length)) (.ite (allFrom (rowT g.L zs.I h.I) i.I.toNat (g.L.length - i.I.toNat)) (.leaf (.exit 0, [])) (.leaf (.ret, [.b false])))
  | _ => .fail
end
theorem tidy_of {q : Nat → Int → Bool} {h : Int} {m : Nat} {g : List (List D)} (G : Gaps q h m g) : tidyB g m h = true := by
  unfold tidyB
  rw [allFrom_iff]
  intro k _ hk
  have hk : k < g.length := by omega
  unfold rowT
  rw [Bool.and_eq_true]
  refine ⟨decide_eq_true ⟨(G.rows k hk).1, ⟨(G.rows k hk).2.1, (G.rows k hk).2.2.1⟩, (G.rows k hk).2.2.2⟩, ?_⟩
  cases k with
  | zero => rfl
  | succ k =>
    have := G.apart k hk
    unfold apB
    rw [Nat.add_sub_cancel, decide_eq_true this]
    rfl
end Go.Proofs.Ytgmefblkmidglaa
namespace Go.Proofs.Ytgmefblkmidglaa
open Go.Lite
noncomputable section
def G27x (ds : List D) : T (List D) := match ds with
  | [n, r, v, z, h] => .need (yes (coverB n.I r.L v.L 60 z.L h.I = true)) (.ite (gapsA n.I r.L v.L z.L h.I).isEmpty (.leaf [.i 0, .i 0]) (.leaf [.i 1, .i (gapsA n.I r.L v.L z.L h.I).length, .i 0, .l (gapsA n.I r.L v.L z.L h.I)]))
  | _ => .fail
def G8_6 (ds : List D) : T (Ex × List D) := match ds with
  | [j, v, z, h, a, e, i, n, r, m0, m1, m2, m3] => .need (yes (j.I = 0 ∧ v.L.length ≤ 10 ∧ i.I = 0))
      (.ite (decide (v.L.length = 0)) (.leaf (.exit 0, [.i 0, .l v.L, .l z.L, .i h.I, .i e.I, .i n.I, .l r.L, .i m0.I, .i m1.I, .i m2.I, .i m3.I]))
        (.leaf (.exit 0, [.i 1, .l v.L, .l z.L, .i h.I, .i e.I, .i (strF a.I v.L 0 v.L.length []).length, .i n.I, .l r.L, .i m0.I, .i m1.I, .i m2.I, .i m3.I, .l (strF a.I v.L 0 v.L.length [])])))
  | [j, v, z, h, a, q1, q2, i, n, r, m0, m1, m2, m3, q3] =>
      match j.I with
      | 1 => (.need (yes (v.L.length ≤ 10 ∧ q2.I = q3.L.length ∧ q3.L.length = i.I ∧ 0 ≤ i.I ∧ i.I ≤ v.L.length))
          (.leaf (.exit 0, [.i 1, .l v.L, .l z.L, .i h.I, .i q1.I, .i (strF a.I v.L i.I.toNat (v.L.length - i.I.toNat) q3.L).length, .i n.I, .l r.L, .i m0.I, .i m1.I, .i m2.I, .i m3.I, .l (strF a.I v.L i.I.toNat (v.L.length - i.I.toNat) q3.L)])))
      | 2 => (.need (yes (v.L.length ≤ 10 ∧ i.I = 0 ∧ q1.I = q3.L.length))
          (.ite (decide (v.L.length = 0)) (.leaf (.exit 0, [.i 2, .l v.L, .l z.L, .i h.I, .i q1.I, .i q2.I, .i n.I, .l r.L, .i m0.I, .i m1.I, .i m2.I, .i m3.I, .l q3.L]))
            (.leaf (.exit 0, [.i 3, .l v.L, .l z.L, .i h.I, .i q1.I, .i q2.I, .i (strF a.I v.L 0 v.L.length []).length, .i n.I, .l r.L, .i m0.I, .i m1.I, .i m2.I, .i m3.I, .l q3.L, .l (strF a.I v.L 0 v.L.length [])]))))
      | _ => .fail
  | [j, v, z, h, a, gm, e, sm, i, n, r, m0, m1, m2, m3, g, s] => .need (yes (j.I = 3 ∧ v.L.length ≤ 10 ∧ gm.I = g.L.length ∧ sm.I = s.L.length ∧ s.L.length = i.I ∧ 0 ≤ i.I ∧ i.I ≤ v.L.length))
      (.leaf (.exit 0, [.i 3, .l v.L, .l z.L, .i h.I, .i gm.I, .i e.I, .i (strF a.I v.L i.I.toNat (v.L.length - i.I.toNat) s.L).length, .i n.I, .l r.L, .i m0.I, .i m1.I, .i m2.I, .i m3.I, .l g.L, .l (strF a.I v.L i.I.toNat (v.L.length - i.I.toNat) s.L)]))
  | _ => .fail
def inB (g h : List (List D)) (i k : Nat) : Bool := gZ g k == gZ h i && (decide (gF g k ≤ gF h i) && decide (gT h i ≤ gT g k))
def anyB (p : Nat → Bool) (i k : Nat) : Bool := !allFrom (fun j => !p j) i k
def insB (g h : List (List D)) (i : Nat) : Bool := anyB (inB g h i) 0 g.length
def G8_15 (ds : List D) : T (Ex × List D) := match ds with
  | [j, v, z, hz, i] => .need (yes (j.I = 0 ∧ i.I = 0)) (.leaf (.exit 2, [.i 0, .l v.L, .l z.L, .i hz.I]))
  | [j, v, z, hz, m, i, g] => match j.I with
      | 1 => (.need (yes (m.I = g.L.length ∧ g.L.length ≤ 1000000000 ∧ 0 ≤ i.I ∧ i.I ≤ g.L.length)) (.ite (allFrom (insB [] g.L) i.I.toNat (g.L.length - i.I.toNat)) (.leaf (.exit 2, [.i 0, .l v.L, .l z.L, .i hz.I])) (.leaf (.ret, [.b false]))))
      | 2 => (.need (yes (i.I = 0 ∧ m.I = g.L.length)) (.leaf (.exit 2, [.i 1, .l v.L, .l z.L, .i hz.I, .i m.I, .l g.L])))
      | _ => .fail
  | [j, v, z, hz, gm, hm, i, g, h] => .need (yes (j.I = 3 ∧ gm.I = g.L.length ∧ hm.I = h.L.length ∧ g.L.length ≤ 1000000000 ∧ h.L.length ≤ 1000000000 ∧ 0 ≤ i.I ∧ i.I ≤ h.L.length))
      (.ite (allFrom (insB g.L h.L) i.I.toNat (h.L.length - i.I.toNat)) (.leaf (.exit 2, [.i 1, .l v.L, .l z.L, .i hz.I, .i gm.I, .l g.L])) (.leaf (.ret, [.b false])))
  | _ => .fail
def G8_19 (ds : List D) : T (Ex × List D) := match ds with
  | [j, v, z, hz, hm, i, o, k, h] => .need (yes (j.I = 0 ∧ k.I = 0 ∧ hm.I = h.L.length)) (.leaf (.exit 4, [.i 0, .l v.L, .l z.L, .i hz.I, .i hm.I, .i i.I, .b o.B, .l h.L]))
  | [j, v, z, hz, gm, hm, i, o, k, g, h] => .need (yes (j.I = 1 ∧ gm.I = g.L.length ∧ hm.I = h.L.length ∧ g.L.length ≤ 1000000000 ∧ (0 ≤ i.I ∧ i.I < h.L.length) ∧ 0 ≤ k.I ∧ k.I ≤ g.L.length))
      (.leaf (.exit 4, [.i 1, .l v.L, .l z.L, .i hz.I, .i gm.I, .i hm.I, .i i.I, .b (o.B || anyB (inB g.L h.L i.I.toNat) k.I.toNat (g.L.length - k.I.toNat)), .l g.L, .l h.L]))
  | _ => .fail
def thB (v : List (List D)) (zi : List D) (t : Int) (k : Nat) : Bool := ix (v.getD k []) 0 == ix zi 0 && (decide (ix (v.getD k []) 2 ≤ t) && (decide (t < ix (v.getD k []) 3) && ableB (v.getD k []) zi))
def gpB (g : List (List D)) (i t : Int) (k : Nat) : Bool := gZ g k == i && (decide (gF g k ≤ t) && decide (t < gT g k))
def secB (g v : List (List D)) (zi : List D) (i : Int) (t : Nat) : Bool := anyB (thB v zi t) 0 v.length != anyB (gpB g i t) 0 g.length
def zonQ (g v z : List (List D)) (hz : Int) (i : Nat) : Bool := ix (z.getD i []) 2 != 0 || (decide (hz > 200) || allFrom (secB g v (z.getD i []) i) 0 hz.toNat)
def fewVZ (v z : List (List D)) : Prop := v.length ≤ 10 ∧ z.length ≤ 5
def G8_25 (ds : List D) : T (Ex × List D) := match ds with
  | [j, v, z, hz, i] => .need (yes (j.I = 0 ∧ fewVZ v.L z.L ∧ 0 ≤ hz.I ∧ 0 ≤ i.I ∧ i.I ≤ z.L.length)) (.ite (allFrom (zonQ [] v.L z.L hz.I) i.I.toNat (z.L.length - i.I.toNat)) (.leaf (.exit 6, [])) (.leaf (.ret, [.b false])))
  | [j, v, z, hz, gm, i, g] => .need (yes (j.I = 1 ∧ gm.I = g.L.length ∧ g.L.length ≤ 1000000000 ∧ fewVZ v.L z.L ∧ 0 ≤ hz.I ∧ 0 ≤ i.I ∧ i.I ≤ z.L.length)) (.ite (allFrom (zonQ g.L v.L z.L hz.I) i.I.toNat (z.L.length - i.I.toNat)) (.leaf (.exit 6, [])) (.leaf (.ret, [.b false])))
  | _ => .fail
def G8_29 (ds : List D) : T (Ex × List D) := match ds with
  | [j, v, z, hz, i, t] => .need (yes (j.I = 0 ∧ fewVZ v.L z.L ∧ hz.I ≤ 200 ∧ (0 ≤ t.I ∧ t.I ≤ hz.I) ∧ 0 ≤ i.I ∧ i.I < z.L.length))
      (.ite (allFrom (secB [] v.L (z.L.getD i.I.toNat []) i.I) t.I.toNat (hz.I.toNat - t.I.toNat)) (.leaf (.exit 8, [.i 0, .l v.L, .l z.L, .i hz.I, .i i.I])) (.leaf (.ret, [.b false])))
  | [j, v, z, hz, gm, i, t, g] => .need (yes (j.I = 1 ∧ gm.I = g.L.length ∧ g.L.length ≤ 1000000000 ∧ fewVZ v.L z.L ∧ hz.I ≤ 200 ∧ (0 ≤ t.I ∧ t.I ≤ hz.I) ∧ 0 ≤ i.I ∧ i.I < z.L.length))
      (.ite (allFrom (secB g.L v.L (z.L.getD i.I.toNat []) i.I) t.I.toNat (hz.I.toNat - t.I.toNat)) (.leaf (.exit 8, [.i 1, .l v.L, .l z.L, .i hz.I, .i gm.I, .i i.I, .l g.L])) (.leaf (.ret, [.b false])))
  | _ => .fail
def G8_33 (ds : List D) : T (Ex × List D) := match ds with
  | [j, v, z, hz, i, t, o, p, k] => .need (yes (j.I = 0 ∧ fewVZ v.L z.L ∧ (0 ≤ i.I ∧ i.I < z.L.length) ∧ 0 ≤ k.I ∧ k.I ≤ v.L.length))
      (.leaf (.exit 10, [.i 0, .l v.L, .l z.L, .i hz.I, .i i.I, .i t.I, .b (o.B || anyB (thB v.L (z.L.getD i.I.toNat []) t.I) k.I.toNat (v.L.length - k.I.toNat)), .b p.B]))
  | [j, v, z, hz, gm, i, t, o, p, k, g] => .need (yes (j.I = 1 ∧ gm.I = g.L.length ∧ fewVZ v.L z.L ∧ (0 ≤ i.I ∧ i.I < z.L.length) ∧ 0 ≤ k.I ∧ k.I ≤ v.L.length))
      (.leaf (.exit 10, [.i 1, .l v.L, .l z.L, .i hz.I, .i gm.I, .i i.I, .i t.I, .b (o.B || anyB (thB v.L (z.L.getD i.I.toNat []) t.I) k.I.toNat (v.L.length - k.I.toNat)), .b p.B, .l g.L]))
  | _ => .fail
def G8_37 (ds : List D) : T (Ex × List D) := match ds with
  | [j, v, z, hz, i, t, o, p, k] => .need (yes (j.I = 0 ∧ k.I = 0)) (.leaf (.exit 12, [.i 0, .l v.L, .l z.L, .i hz.I, .i i.I, .i t.I, .b o.B, .b p.B]))
  | [j, v, z, hz, gm, i, t, o, p, k, g] => .need (yes (j.I = 1 ∧ gm.I = g.L.length ∧ g.L.length ≤ 1000000000 ∧ 0 ≤ k.I ∧ k.I ≤ g.L.length))
      (.leaf (.exit 12, [.i 1, .l v.L, .l z.L, .i hz.I, .i gm.I, .i i.I, .i t.I, .b o.B, .b (p.B || anyB (gpB g.L i.I t.I) k.I.toNat (g.L.length - k.I.toNat)), .l g.L]))
  | _ => .fail
end
end Go.Proofs.Ytgmefblkmidglaa
namespace Go.Proofs.Ytgmefblkmidglaa
open Go.Lite
noncomputable def sp31 : SpL := []
noncomputable def lp31 : LpL := [(2, mkL l31_2 G31_2)]
noncomputable def sw31 : SwL := []
noncomputable def tab31 : Tab := mkTab sp31 lp31 sw31
end Go.Proofs.Ytgmefblkmidglaa
namespace Go.Proofs.Ytgmefblkmidglaa
open Go.Lite
noncomputable def sp8 : SpL := [(15, mkF s15 G15), (19, mkF s19 G19), (28, mkF s28 G28), (29, mkF s29 G29), (27, mkF s27 G27x), (31, mkF s31 G31)]
noncomputable def lp8 : LpL := [(6, mkL l8_6 G8_6), (15, mkL l8_15 G8_15), (19, mkL l8_19 G8_19), (25, mkL l8_25 G8_25), (29, mkL l8_29 G8_29), (33, mkL l8_33 G8_33), (37, mkL l8_37 G8_37)]
noncomputable def sw8 : SwL := []
noncomputable def tab8 : Tab := mkTab sp8 lp8 sw8
end Go.Proofs.Ytgmefblkmidglaa
namespace Go.Proofs.Ytgmefblkmidglaa
open Go.Lite
set_option linter.unusedVariables false
set_option maxRecDepth 100000
theorem t8_6_0 (a b c d e f g h i j k l : D) : roundT C tab8 8 (loopOf C.P 8 6) l8_6 [.i 0, a, b, c, d, e, f, g, h, i, j, k, l] =
  T.ite (decide (D.I f < (↑(List.length (D.L a)) : Int))) (T.need (decide ((0 : Int) ≤ D.I f ∧ D.I f < (↑(List.length (D.L a)) : Int))) (T.need true (T.ite false (T.leaf (Rd.again [D.i (0 : Int), D.l (D.L a), D.l (D.L b), D.i (D.I c), D.i (D.I d), D.i (D.I e), D.i (IntKind.wrap IntKind.i64 (D.I f + (1 : Int))), D.i (D.I g), D.l (D.L h), D.i (D.I i), D.i (D.I j), D.i (D.I k), D.i (D.I l)])) (T.need true (T.leaf (Rd.again [D.i (1 : Int), D.l (D.L a), D.l (D.L b), D.i (D.I c), D.i (D.I d), D.i (D.I e), D.i (1 : Int), D.i (IntKind.wrap IntKind.i64 (D.I f + (1 : Int))), D.i (D.I g), D.l (D.L h), D.i (D.I i), D.i (D.I j), D.i (D.I k), D.i (D.I l), D.l [[D.i (D.I (List.getD (List.getD (D.L a) (Int.toNat (D.I f)) []) 0 default)), D.i (IntKind.wrap IntKind.i64 (↑(BitVec.toNat (BitVec.ofInt (IntKind.bits IntKind.i64) (D.I (List.getD (List.getD (D.L a) (Int.toNat (D.I f)) []) (0 + 1) default)) ||| BitVec.ofInt (IntKind.bits IntKind.i64) (D.I d))) : Int)), D.i (D.I (List.getD (List.getD (D.L a) (Int.toNat (D.I f)) []) (0 + 1 + 1) default)), D.i (D.I (List.getD (List.getD (D.L a) (Int.toNat (D.I f)) []) (0 + 1 + 1 + 1) default))]]])))))) (T.leaf (Rd.out (Ex.exit 0) [D.i (0 : Int), D.l (D.L a), D.l (D.L b), D.i (D.I c), D.i (D.I e), D.i (D.I g), D.l (D.L h), D.i (D.I i), D.i (D.I j), D.i (D.I k), D.i (D.I l)])) := by kernel_rfl
theorem t8_6_1 (a b c d e f g h i j k l m n : D) : roundT C tab8 8 (loopOf C.P 8 6) l8_6 [.i 1, a, b, c, d, e, f, g, h, i, j, k, l, m, n] =
  T.ite (decide (D.I g < (↑(List.length (D.L a)) : Int))) (T.need (decide ((0 : Int) ≤ D.I g ∧ D.I g < (↑(List.length (D.L a)) : Int))) (T.need true (T.ite false (T.leaf (Rd.again [D.i (1 : Int), D.l (D.L a), D.l (D.L b), D.i (D.I c), D.i (D.I d), D.i (D.I e), D.i (↑(Int.toNat (D.I f)) : Int), D.i (IntKind.wrap IntKind.i64 (D.I g + (1 : Int))), D.i (D.I h), D.l (D.L i), D.i (D.I j), D.i (D.I k), D.i (D.I l), D.i (D.I m), D.l (D.L n)])) (T.need (decide (Int.toNat (D.I f) ≤ List.length (D.L n) ∧ Int.toNat (D.I f) + List.length (List.take (List.length [[D.i (D.I (List.getD (List.getD (D.L a) (Int.toNat (D.I g)) []) 0 default)), D.i (IntKind.wrap IntKind.i64 (↑(BitVec.toNat (BitVec.ofInt (IntKind.bits IntKind.i64) (D.I (List.getD (List.getD (D.L a) (Int.toNat (D.I g)) []) (0 + 1) default)) ||| BitVec.ofInt (IntKind.bits IntKind.i64) (D.I d))) : Int)), D.i (D.I (List.getD (List.getD (D.L a) (Int.toNat (D.I g)) []) (0 + 1 + 1) default)), D.i (D.I (List.getD (List.getD (D.L a) (Int.toNat (D.I g)) []) (0 + 1 + 1 + 1) default))]]) [[D.i (D.I (List.getD (List.getD (D.L a) (Int.toNat (D.I g)) []) 0 default)), D.i (IntKind.wrap IntKind.i64 (↑(BitVec.toNat (BitVec.ofInt (IntKind.bits IntKind.i64) (D.I (List.getD (List.getD (D.L a) (Int.toNat (D.I g)) []) (0 + 1) default)) ||| BitVec.ofInt (IntKind.bits IntKind.i64) (D.I d))) : Int)), D.i (D.I (List.getD (List.getD (D.L a) (Int.toNat (D.I g)) []) (0 + 1 + 1) default)), D.i (D.I (List.getD (List.getD (D.L a) (Int.toNat (D.I g)) []) (0 + 1 + 1 + 1) default))]]) ≤ 2 ^ 62 ∧ (Int.toNat (D.I f) + List.length (List.take (List.length [[D.i (D.I (List.getD (List.getD (D.L a) (Int.toNat (D.I g)) []) 0 default)), D.i (IntKind.wrap IntKind.i64 (↑(BitVec.toNat (BitVec.ofInt (IntKind.bits IntKind.i64) (D.I (List.getD (List.getD (D.L a) (Int.toNat (D.I g)) []) (0 + 1) default)) ||| BitVec.ofInt (IntKind.bits IntKind.i64) (D.I d))) : Int)), D.i (D.I (List.getD (List.getD (D.L a) (Int.toNat (D.I g)) []) (0 + 1 + 1) default)), D.i (D.I (List.getD (List.getD (D.L a) (Int.toNat (D.I g)) []) (0 + 1 + 1 + 1) default))]]) [[D.i (D.I (List.getD (List.getD (D.L a) (Int.toNat (D.I g)) []) 0 default)), D.i (IntKind.wrap IntKind.i64 (↑(BitVec.toNat (BitVec.ofInt (IntKind.bits IntKind.i64) (D.I (List.getD (List.getD (D.L a) (Int.toNat (D.I g)) []) (0 + 1) default)) ||| BitVec.ofInt (IntKind.bits IntKind.i64) (D.I d))) : Int)), D.i (D.I (List.getD (List.getD (D.L a) (Int.toNat (D.I g)) []) (0 + 1 + 1) default)), D.i (D.I (List.getD (List.getD (D.L a) (Int.toNat (D.I g)) []) (0 + 1 + 1 + 1) default))]])) * Try.prog.types[60].bytes ≤ 2 ^ 47)) (T.leaf (Rd.again [D.i (1 : Int), D.l (D.L a), D.l (D.L b), D.i (D.I c), D.i (D.I d), D.i (D.I e), D.i (↑(Int.toNat (D.I f) + List.length (List.take (List.length [[D.i (D.I (List.getD (List.getD (D.L a) (Int.toNat (D.I g)) []) 0 default)), D.i (IntKind.wrap IntKind.i64 (↑(BitVec.toNat (BitVec.ofInt (IntKind.bits IntKind.i64) (D.I (List.getD (List.getD (D.L a) (Int.toNat (D.I g)) []) (0 + 1) default)) ||| BitVec.ofInt (IntKind.bits IntKind.i64) (D.I d))) : Int)), D.i (D.I (List.getD (List.getD (D.L a) (Int.toNat (D.I g)) []) (0 + 1 + 1) default)), D.i (D.I (List.getD (List.getD (D.L a) (Int.toNat (D.I g)) []) (0 + 1 + 1 + 1) default))]]) [[D.i (D.I (List.getD (List.getD (D.L a) (Int.toNat (D.I g)) []) 0 default)), D.i (IntKind.wrap IntKind.i64 (↑(BitVec.toNat (BitVec.ofInt (IntKind.bits IntKind.i64) (D.I (List.getD (List.getD (D.L a) (Int.toNat (D.I g)) []) (0 + 1) default)) ||| BitVec.ofInt (IntKind.bits IntKind.i64) (D.I d))) : Int)), D.i (D.I (List.getD (List.getD (D.L a) (Int.toNat (D.I g)) []) (0 + 1 + 1) default)), D.i (D.I (List.getD (List.getD (D.L a) (Int.toNat (D.I g)) []) (0 + 1 + 1 + 1) default))]])) : Int), D.i (IntKind.wrap IntKind.i64 (D.I g + (1 : Int))), D.i (D.I h), D.l (D.L i), D.i (D.I j), D.i (D.I k), D.i (D.I l), D.i (D.I m), D.l (List.take (Int.toNat (D.I f)) (D.L n) ++ List.take (List.length [[D.i (D.I (List.getD (List.getD (D.L a) (Int.toNat (D.I g)) []) 0 default)), D.i (IntKind.wrap IntKind.i64 (↑(BitVec.toNat (BitVec.ofInt (IntKind.bits IntKind.i64) (D.I (List.getD (List.getD (D.L a) (Int.toNat (D.I g)) []) (0 + 1) default)) ||| BitVec.ofInt (IntKind.bits IntKind.i64) (D.I d))) : Int)), D.i (D.I (List.getD (List.getD (D.L a) (Int.toNat (D.I g)) []) (0 + 1 + 1) default)), D.i (D.I (List.getD (List.getD (D.L a) (Int.toNat (D.I g)) []) (0 + 1 + 1 + 1) default))]]) [[D.i (D.I (List.getD (List.getD (D.L a) (Int.toNat (D.I g)) []) 0 default)), D.i (IntKind.wrap IntKind.i64 (↑(BitVec.toNat (BitVec.ofInt (IntKind.bits IntKind.i64) (D.I (List.getD (List.getD (D.L a) (Int.toNat (D.I g)) []) (0 + 1) default)) ||| BitVec.ofInt (IntKind.bits IntKind.i64) (D.I d))) : Int)), D.i (D.I (List.getD (List.getD (D.L a) (Int.toNat (D.I g)) []) (0 + 1 + 1) default)), D.i (D.I (List.getD (List.getD (D.L a) (Int.toNat (D.I g)) []) (0 + 1 + 1 + 1) default))]])])))))) (T.leaf (Rd.out (Ex.exit 0) [D.i (1 : Int), D.l (D.L a), D.l (D.L b), D.i (D.I c), D.i (D.I e), D.i (↑(Int.toNat (D.I f)) : Int), D.i (D.I h), D.l (D.L i), D.i (D.I j), D.i (D.I k), D.i (D.I l), D.i (D.I m), D.l (D.L n)])) := by kernel_rfl
theorem t8_6_2 (a b c d e f g h i j k l m n : D) : roundT C tab8 8 (loopOf C.P 8 6) l8_6 [.i 2, a, b, c, d, e, f, g, h, i, j, k, l, m, n] =
  T.ite (decide (D.I g < (↑(List.length (D.L a)) : Int))) (T.need (decide ((0 : Int) ≤ D.I g ∧ D.I g < (↑(List.length (D.L a)) : Int))) (T.need true (T.ite false (T.leaf (Rd.again [D.i (2 : Int), D.l (D.L a), D.l (D.L b), D.i (D.I c), D.i (D.I d), D.i (↑(Int.toNat (D.I e)) : Int), D.i (D.I f), D.i (IntKind.wrap IntKind.i64 (D.I g + (1 : Int))), D.i (D.I h), D.l (D.L i), D.i (D.I j), D.i (D.I k), D.i (D.I l), D.i (D.I m), D.l (D.L n)])) (T.need true (T.leaf (Rd.again [D.i (3 : Int), D.l (D.L a), D.l (D.L b), D.i (D.I c), D.i (D.I d), D.i (↑(Int.toNat (D.I e)) : Int), D.i (D.I f), D.i (1 : Int), D.i (IntKind.wrap IntKind.i64 (D.I g + (1 : Int))), D.i (D.I h), D.l (D.L i), D.i (D.I j), D.i (D.I k), D.i (D.I l), D.i (D.I m), D.l (D.L n), D.l [[D.i (D.I (List.getD (List.getD (D.L a) (Int.toNat (D.I g)) []) 0 default)), D.i (IntKind.wrap IntKind.i64 (↑(BitVec.toNat (BitVec.ofInt (IntKind.bits IntKind.i64) (D.I (List.getD (List.getD (D.L a) (Int.toNat (D.I g)) []) (0 + 1) default)) ||| BitVec.ofInt (IntKind.bits IntKind.i64) (D.I d))) : Int)), D.i (D.I (List.getD (List.getD (D.L a) (Int.toNat (D.I g)) []) (0 + 1 + 1) default)), D.i (D.I (List.getD (List.getD (D.L a) (Int.toNat (D.I g)) []) (0 + 1 + 1 + 1) default))]]])))))) (T.leaf (Rd.out (Ex.exit 0) [D.i (2 : Int), D.l (D.L a), D.l (D.L b), D.i (D.I c), D.i (↑(Int.toNat (D.I e)) : Int), D.i (D.I f), D.i (D.I h), D.l (D.L i), D.i (D.I j), D.i (D.I k), D.i (D.I l), D.i (D.I m), D.l (D.L n)])) := by kernel_rfl
theorem t8_6_3 (a b c d e f g h i j k l m n o p : D) : roundT C tab8 8 (loopOf C.P 8 6) l8_6 [.i 3, a, b, c, d, e, f, g, h, i, j, k, l, m, n, o, p] =
  T.ite (decide (D.I h < (↑(List.length (D.L a)) : Int))) (T.need (decide ((0 : Int) ≤ D.I h ∧ D.I h < (↑(List.length (D.L a)) : Int))) (T.need true (T.ite false (T.leaf (Rd.again [D.i (3 : Int), D.l (D.L a), D.l (D.L b), D.i (D.I c), D.i (D.I d), D.i (↑(Int.toNat (D.I e)) : Int), D.i (D.I f), D.i (↑(Int.toNat (D.I g)) : Int), D.i (IntKind.wrap IntKind.i64 (D.I h + (1 : Int))), D.i (D.I i), D.l (D.L j), D.i (D.I k), D.i (D.I l), D.i (D.I m), D.i (D.I n), D.l (D.L o), D.l (D.L p)])) (T.need (decide (Int.toNat (D.I g) ≤ List.length (D.L p) ∧ Int.toNat (D.I g) + List.length (List.take (List.length [[D.i (D.I (List.getD (List.getD (D.L a) (Int.toNat (D.I h)) []) 0 default)), D.i (IntKind.wrap IntKind.i64 (↑(BitVec.toNat (BitVec.ofInt (IntKind.bits IntKind.i64) (D.I (List.getD (List.getD (D.L a) (Int.toNat (D.I h)) []) (0 + 1) default)) ||| BitVec.ofInt (IntKind.bits IntKind.i64) (D.I d))) : Int)), D.i (D.I (List.getD (List.getD (D.L a) (Int.toNat (D.I h)) []) (0 + 1 + 1) default)), D.i (D.I (List.getD (List.getD (D.L a) (Int.toNat (D.I h)) []) (0 + 1 + 1 + 1) default))]]) [[D.i (D.I (List.getD (List.getD (D.L a) (Int.toNat (D.I h)) []) 0 default)), D.i (IntKind.wrap IntKind.i64 (↑(BitVec.toNat (BitVec.ofInt (IntKind.bits IntKind.i64) (D.I (List.getD (List.getD (D.L a) (Int.toNat (D.I h)) []) (0 + 1) default)) ||| BitVec.ofInt (IntKind.bits IntKind.i64) (D.I d))) : Int)), D.i (D.I (List.getD (List.getD (D.L a) (Int.toNat (D.I h)) []) (0 + 1 + 1) default)), D.i (D.I (List.getD (List.getD (D.L a) (Int.toNat (D.I h)) []) (0 + 1 + 1 + 1) default))]]) ≤ 2 ^ 62 ∧ (Int.toNat (D.I g) + List.length (List.take (List.length [[D.i (D.I (List.getD (List.getD (D.L a) (Int.toNat (D.I h)) []) 0 default)), D.i (IntKind.wrap IntKind.i64 (↑(BitVec.toNat (BitVec.ofInt (IntKind.bits IntKind.i64) (D.I (List.getD (List.getD (D.L a) (Int.toNat (D.I h)) []) (0 + 1) default)) ||| BitVec.ofInt (IntKind.bits IntKind.i64) (D.I d))) : Int)), D.i (D.I (List.getD (List.getD (D.L a) (Int.toNat (D.I h)) []) (0 + 1 + 1) default)), D.i (D.I (List.getD (List.getD (D.L a) (Int.toNat (D.I h)) []) (0 + 1 + 1 + 1) default))]]) [[D.i (D.I (List.getD (List.getD (D.L a) (Int.toNat (D.I h)) []) 0 default)), D.i (IntKind.wrap IntKind.i64 (↑(BitVec.toNat (BitVec.ofInt (IntKind.bits IntKind.i64) (D.I (List.getD (List.getD (D.L a) (Int.toNat (D.I h)) []) (0 + 1) default)) ||| BitVec.ofInt (IntKind.bits IntKind.i64) (D.I d))) : Int)), D.i (D.I (List.getD (List.getD (D.L a) (Int.toNat (D.I h)) []) (0 + 1 + 1) default)), D.i (D.I (List.getD (List.getD (D.L a) (Int.toNat (D.I h)) []) (0 + 1 + 1 + 1) default))]])) * Try.prog.types[60].bytes ≤ 2 ^ 47)) (T.leaf (Rd.again [D.i (3 : Int), D.l (D.L a), D.l (D.L b), D.i (D.I c), D.i (D.I d), D.i (↑(Int.toNat (D.I e)) : Int), D.i (D.I f), D.i (↑(Int.toNat (D.I g) + List.length (List.take (List.length [[D.i (D.I (List.getD (List.getD (D.L a) (Int.toNat (D.I h)) []) 0 default)), D.i (IntKind.wrap IntKind.i64 (↑(BitVec.toNat (BitVec.ofInt (IntKind.bits IntKind.i64) (D.I (List.getD (List.getD (D.L a) (Int.toNat (D.I h)) []) (0 + 1) default)) ||| BitVec.ofInt (IntKind.bits IntKind.i64) (D.I d))) : Int)), D.i (D.I (List.getD (List.getD (D.L a) (Int.toNat (D.I h)) []) (0 + 1 + 1) default)), D.i (D.I (List.getD (List.getD (D.L a) (Int.toNat (D.I h)) []) (0 + 1 + 1 + 1) default))]]) [[D.i (D.I (List.getD (List.getD (D.L a) (Int.toNat (D.I h)) []) 0 default)), D.i (IntKind.wrap IntKind.i64 (↑(BitVec.toNat (BitVec.ofInt (IntKind.bits IntKind.i64) (D.I (List.getD (List.getD (D.L a) (Int.toNat (D.I h)) []) (0 + 1) default)) ||| BitVec.ofInt (IntKind.bits IntKind.i64) (D.I d))) : Int)), D.i (D.I (List.getD (List.getD (D.L a) (Int.toNat (D.I h)) []) (0 + 1 + 1) default)), D.i (D.I (List.getD (List.getD (D.L a) (Int.toNat (D.I h)) []) (0 + 1 + 1 + 1) default))]])) : Int), D.i (IntKind.wrap IntKind.i64 (D.I h + (1 : Int))), D.i (D.I i), D.l (D.L j), D.i (D.I k), D.i (D.I l), D.i (D.I m), D.i (D.I n), D.l (D.L o), D.l (List.take (Int.toNat (D.I g)) (D.L p) ++ List.take (List.length [[D.i (D.I (List.getD (List.getD (D.L a) (Int.toNat (D.I h)) []) 0 default)), D.i (IntKind.wrap IntKind.i64 (↑(BitVec.toNat (BitVec.ofInt (IntKind.bits IntKind.i64) (D.I (List.getD (List.getD (D.L a) (Int.toNat (D.I h)) []) (0 + 1) default)) ||| BitVec.ofInt (IntKind.bits IntKind.i64) (D.I d))) : Int)), D.i (D.I (List.getD (List.getD (D.L a) (Int.toNat (D.I h)) []) (0 + 1 + 1) default)), D.i (D.I (List.getD (List.getD (D.L a) (Int.toNat (D.I h)) []) (0 + 1 + 1 + 1) default))]]) [[D.i (D.I (List.getD (List.getD (D.L a) (Int.toNat (D.I h)) []) 0 default)), D.i (IntKind.wrap IntKind.i64 (↑(BitVec.toNat (BitVec.ofInt (IntKind.bits IntKind.i64) (D.I (List.getD (List.getD (D.L a) (Int.toNat (D.I h)) []) (0 + 1) default)) ||| BitVec.ofInt (IntKind.bits IntKind.i64) (D.I d))) : Int)), D.i (D.I (List.getD (List.getD (D.L a) (Int.toNat (D.I h)) []) (0 + 1 + 1) default)), D.i (D.I (List.getD (List.getD (D.L a) (Int.toNat (D.I h)) []) (0 + 1 + 1 + 1) default))]])])))))) (T.leaf (Rd.out (Ex.exit 0) [D.i (3 : Int), D.l (D.L a), D.l (D.L b), D.i (D.I c), D.i (↑(Int.toNat (D.I e)) : Int), D.i (D.I f), D.i (↑(Int.toNat (D.I g)) : Int), D.i (D.I i), D.l (D.L j), D.i (D.I k), D.i (D.I l), D.i (D.I m), D.i (D.I n), D.l (D.L o), D.l (D.L p)])) := by kernel_rfl
theorem t8_15_0 (a b c d : D) : roundT C tab8 8 (loopOf C.P 8 15) l8_15 [.i 0, a, b, c, d] =
  T.ite (decide (D.I d < (↑0 : Int))) T.fail (T.leaf (Rd.out (Ex.exit 2) [D.i (0 : Int), D.l (D.L a), D.l (D.L b), D.i (D.I c)])) := by kernel_rfl
theorem t8_15_1 (a b c d e f : D) : roundT C tab8 8 (loopOf C.P 8 15) l8_15 [.i 1, a, b, c, d, e, f] =
  T.ite (decide (D.I e < (↑(Int.toNat (D.I d)) : Int))) (T.need (yes ((↑0 : Int) = (0 : Int) ∧ (0 : Int) = (0 : Int) ∧ (↑(Int.toNat (D.I d)) : Int) = (↑(List.length (D.L f)) : Int))) (T.ite true (T.leaf (Rd.out Ex.ret [D.b false])) (T.leaf (Rd.again [D.i (1 : Int), D.l (D.L a), D.l (D.L b), D.i (D.I c), D.i (↑(Int.toNat (↑(Int.toNat (D.I d)) : Int)) : Int), D.i (IntKind.wrap IntKind.i64 (D.I e + (1 : Int))), D.l (D.L f)])))) (T.leaf (Rd.out (Ex.exit 2) [D.i (0 : Int), D.l (D.L a), D.l (D.L b), D.i (D.I c)])) := by kernel_rfl
theorem t8_15_2 (a b c d e f : D) : roundT C tab8 8 (loopOf C.P 8 15) l8_15 [.i 2, a, b, c, d, e, f] =
  T.ite (decide (D.I e < (↑0 : Int))) T.fail (T.leaf (Rd.out (Ex.exit 2) [D.i (1 : Int), D.l (D.L a), D.l (D.L b), D.i (D.I c), D.i (↑(Int.toNat (D.I d)) : Int), D.l (D.L f)])) := by kernel_rfl
theorem t8_15_3 (a b c d e f g h : D) : roundT C tab8 8 (loopOf C.P 8 15) l8_15 [.i 3, a, b, c, d, e, f, g, h] =
  T.ite (decide (D.I f < (↑(Int.toNat (D.I e)) : Int))) (T.need (yes ((↑(0 + 1) : Int) = (1 : Int) ∧ (↑(Int.toNat (D.I d)) : Int) = (↑(List.length (D.L g)) : Int) ∧ (↑(Int.toNat (D.I e)) : Int) = (↑(List.length (D.L h)) : Int) ∧ List.length (D.L g) ≤ 1000000000 ∧ ((0 : Int) ≤ D.I f ∧ D.I f < (↑(List.length (D.L h)) : Int)) ∧ (0 : Int) ≤ (0 : Int) ∧ (0 : Int) ≤ (↑(List.length (D.L g)) : Int))) (T.ite (!(false || anyB (inB (D.L g) (D.L h) (Int.toNat (D.I f))) (Int.toNat (0 : Int)) (List.length (D.L g) - Int.toNat (0 : Int)))) (T.leaf (Rd.out Ex.ret [D.b false])) (T.leaf (Rd.again [D.i (3 : Int), D.l (D.L a), D.l (D.L b), D.i (D.I c), D.i (↑(Int.toNat (↑(Int.toNat (D.I d)) : Int)) : Int), D.i (↑(Int.toNat (↑(Int.toNat (D.I e)) : Int)) : Int), D.i (IntKind.wrap IntKind.i64 (D.I f + (1 : Int))), D.l (D.L g), D.l (D.L h)])))) (T.leaf (Rd.out (Ex.exit 2) [D.i (1 : Int), D.l (D.L a), D.l (D.L b), D.i (D.I c), D.i (↑(Int.toNat (D.I d)) : Int), D.l (D.L g)])) := by kernel_rfl
theorem t8_19_0 (a b c d e f g h : D) : roundT C tab8 8 (loopOf C.P 8 19) l8_19 [.i 0, a, b, c, d, e, f, g, h] =
  T.ite (decide (D.I g < (↑0 : Int))) (T.ite (D.B f) (T.leaf (Rd.again [D.i (0 : Int), D.l (D.L a), D.l (D.L b), D.i (D.I c), D.i (↑(Int.toNat (D.I d)) : Int), D.i (D.I e), D.b true, D.i (IntKind.wrap IntKind.i64 (D.I g + (1 : Int))), D.l (D.L h)])) T.fail) (T.leaf (Rd.out (Ex.exit 4) [D.i (0 : Int), D.l (D.L a), D.l (D.L b), D.i (D.I c), D.i (↑(Int.toNat (D.I d)) : Int), D.i (D.I e), D.b (D.B f), D.l (D.L h)])) := by kernel_rfl
theorem t8_19_1 (a b c d e f g h i j : D) : roundT C tab8 8 (loopOf C.P 8 19) l8_19 [.i 1, a, b, c, d, e, f, g, h, i, j] =
  T.ite (decide (D.I h < (↑(Int.toNat (D.I d)) : Int))) (T.ite (D.B g) (T.leaf (Rd.again [D.i (1 : Int), D.l (D.L a), D.l (D.L b), D.i (D.I c), D.i (↑(Int.toNat (D.I d)) : Int), D.i (↑(Int.toNat (D.I e)) : Int), D.i (D.I f), D.b true, D.i (IntKind.wrap IntKind.i64 (D.I h + (1 : Int))), D.l (D.L i), D.l (D.L j)])) (T.need (decide ((0 : Int) ≤ D.I h ∧ D.I h < (↑(Int.toNat (D.I d)) : Int))) (T.need (decide (Int.toNat (D.I h) < List.length (D.L i))) (T.need (decide ((0 : Int) ≤ D.I f ∧ D.I f < (↑(Int.toNat (D.I e)) : Int))) (T.need (decide (Int.toNat (D.I f) < List.length (D.L j))) (T.ite (D.I (List.getD (List.getD (D.L i) (Int.toNat (D.I h)) []) 0 default) == D.I (List.getD (List.getD (D.L j) (Int.toNat (D.I f)) []) 0 default)) (T.need (decide ((0 : Int) ≤ D.I h ∧ D.I h < (↑(Int.toNat (D.I d)) : Int))) (T.need (decide (Int.toNat (D.I h) < List.length (D.L i))) (T.need (decide ((0 : Int) ≤ D.I f ∧ D.I f < (↑(Int.toNat (D.I e)) : Int))) (T.need (decide (Int.toNat (D.I f) < List.length (D.L j))) (T.ite (decide (D.I (List.getD (List.getD (D.L i) (Int.toNat (D.I h)) []) (0 + 1) default) ≤ D.I (List.getD (List.getD (D.L j) (Int.toNat (D.I f)) []) (0 + 1) default))) (T.need (decide ((0 : Int) ≤ D.I f ∧ D.I f < (↑(Int.toNat (D.I e)) : Int))) (T.need (decide (Int.toNat (D.I f) < List.length (D.L j))) (T.need (decide ((0 : Int) ≤ D.I h ∧ D.I h < (↑(Int.toNat (D.I d)) : Int))) (T.need (decide (Int.toNat (D.I h) < List.length (D.L i))) (T.leaf (Rd.again [D.i (1 : Int), D.l (D.L a), D.l (D.L b), D.i (D.I c), D.i (↑(Int.toNat (D.I d)) : Int), D.i (↑(Int.toNat (D.I e)) : Int), D.i (D.I f), D.b (decide (D.I (List.getD (List.getD (D.L j) (Int.toNat (D.I f)) []) (0 + 1 + 1) default) ≤ D.I (List.getD (List.getD (D.L i) (Int.toNat (D.I h)) []) (0 + 1 + 1) default))), D.i (IntKind.wrap IntKind.i64 (D.I h + (1 : Int))), D.l (D.L i), D.l (D.L j)])))))) (T.leaf (Rd.again [D.i (1 : Int), D.l (D.L a), D.l (D.L b), D.i (D.I c), D.i (↑(Int.toNat (D.I d)) : Int), D.i (↑(Int.toNat (D.I e)) : Int), D.i (D.I f), D.b false, D.i (IntKind.wrap IntKind.i64 (D.I h + (1 : Int))), D.l (D.L i), D.l (D.L j)]))))))) (T.leaf (Rd.again [D.i (1 : Int), D.l (D.L a), D.l (D.L b), D.i (D.I c), D.i (↑(Int.toNat (D.I d)) : Int), D.i (↑(Int.toNat (D.I e)) : Int), D.i (D.I f), D.b false, D.i (IntKind.wrap IntKind.i64 (D.I h + (1 : Int))), D.l (D.L i), D.l (D.L j)])))))))) (T.leaf (Rd.out (Ex.exit 4) [D.i (1 : Int), D.l (D.L a), D.l (D.L b), D.i (D.I c), D.i (↑(Int.toNat (D.I d)) : Int), D.i (↑(Int.toNat (D.I e)) : Int), D.i (D.I f), D.b (D.B g), D.l (D.L i), D.l (D.L j)])) := by kernel_rfl
theorem t8_25_0 (a b c d : D) : roundT C tab8 8 (loopOf C.P 8 25) l8_25 [.i 0, a, b, c, d] =
  T.ite (decide (D.I d < (↑(List.length (D.L b)) : Int))) (T.need (decide ((0 : Int) ≤ D.I d ∧ D.I d < (↑(List.length (D.L b)) : Int))) (T.ite (D.I (List.getD (List.getD (D.L b) (Int.toNat (D.I d)) []) (0 + 1 + 1) default) != (0 : Int)) (T.leaf (Rd.again [D.i (0 : Int), D.l (D.L a), D.l (D.L b), D.i (D.I c), D.i (IntKind.wrap IntKind.i64 (D.I d + (1 : Int)))])) (T.ite (decide (D.I c > (200 : Int))) (T.leaf (Rd.again [D.i (0 : Int), D.l (D.L a), D.l (D.L b), D.i (D.I c), D.i (IntKind.wrap IntKind.i64 (D.I d + (1 : Int)))])) (T.need (yes ((↑0 : Int) = (0 : Int) ∧ fewVZ (D.L a) (D.L b) ∧ D.I c ≤ (200 : Int) ∧ ((0 : Int) ≤ (0 : Int) ∧ (0 : Int) ≤ D.I c) ∧ (0 : Int) ≤ D.I d ∧ D.I d < (↑(List.length (D.L b)) : Int))) (T.ite (allFrom (secB [] (D.L a) (List.getD (D.L b) (Int.toNat (D.I d)) []) (D.I d)) (Int.toNat (0 : Int)) (Int.toNat (D.I c) - Int.toNat (0 : Int))) (T.leaf (Rd.again [D.i (0 : Int), D.l (D.L a), D.l (D.L b), D.i (D.I c), D.i (IntKind.wrap IntKind.i64 (D.I d + (1 : Int)))])) (T.leaf (Rd.out Ex.ret [D.b false]))))))) (T.leaf (Rd.out (Ex.exit 6) [])) := by kernel_rfl
theorem t8_25_1 (a b c d e f : D) : roundT C tab8 8 (loopOf C.P 8 25) l8_25 [.i 1, a, b, c, d, e, f] =
  T.ite (decide (D.I e < (↑(List.length (D.L b)) : Int))) (T.need (decide ((0 : Int) ≤ D.I e ∧ D.I e < (↑(List.length (D.L b)) : Int))) (T.ite (D.I (List.getD (List.getD (D.L b) (Int.toNat (D.I e)) []) (0 + 1 + 1) default) != (0 : Int)) (T.leaf (Rd.again [D.i (1 : Int), D.l (D.L a), D.l (D.L b), D.i (D.I c), D.i (↑(Int.toNat (D.I d)) : Int), D.i (IntKind.wrap IntKind.i64 (D.I e + (1 : Int))), D.l (D.L f)])) (T.ite (decide (D.I c > (200 : Int))) (T.leaf (Rd.again [D.i (1 : Int), D.l (D.L a), D.l (D.L b), D.i (D.I c), D.i (↑(Int.toNat (D.I d)) : Int), D.i (IntKind.wrap IntKind.i64 (D.I e + (1 : Int))), D.l (D.L f)])) (T.need (yes ((↑(0 + 1) : Int) = (1 : Int) ∧ (↑(Int.toNat (D.I d)) : Int) = (↑(List.length (D.L f)) : Int) ∧ List.length (D.L f) ≤ 1000000000 ∧ fewVZ (D.L a) (D.L b) ∧ D.I c ≤ (200 : Int) ∧ ((0 : Int) ≤ (0 : Int) ∧ (0 : Int) ≤ D.I c) ∧ (0 : Int) ≤ D.I e ∧ D.I e < (↑(List.length (D.L b)) : Int))) (T.ite (allFrom (secB (D.L f) (D.L a) (List.getD (D.L b) (Int.toNat (D.I e)) []) (D.I e)) (Int.toNat (0 : Int)) (Int.toNat (D.I c) - Int.toNat (0 : Int))) (T.leaf (Rd.again [D.i (1 : Int), D.l (D.L a), D.l (D.L b), D.i (D.I c), D.i (↑(Int.toNat (↑(Int.toNat (D.I d)) : Int)) : Int), D.i (IntKind.wrap IntKind.i64 (D.I e + (1 : Int))), D.l (D.L f)])) (T.leaf (Rd.out Ex.ret [D.b false]))))))) (T.leaf (Rd.out (Ex.exit 6) [])) := by kernel_rfl
theorem t8_29_0 (a b c d e : D) : roundT C tab8 8 (loopOf C.P 8 29) l8_29 [.i 0, a, b, c, d, e] =
  T.ite (decide (D.I e < D.I c)) (T.need (yes ((↑0 : Int) = (0 : Int) ∧ fewVZ (D.L a) (D.L b) ∧ ((0 : Int) ≤ D.I d ∧ D.I d < (↑(List.length (D.L b)) : Int)) ∧ (0 : Int) ≤ (0 : Int) ∧ (0 : Int) ≤ (↑(List.length (D.L a)) : Int))) (T.need (yes ((↑0 : Int) = (0 : Int) ∧ (0 : Int) = (0 : Int))) (T.ite ((false || anyB (thB (D.L a) (List.getD (D.L b) (Int.toNat (D.I d)) []) (D.I e)) (Int.toNat (0 : Int)) (List.length (D.L a) - Int.toNat (0 : Int))) == false) (T.leaf (Rd.out Ex.ret [D.b false])) (T.leaf (Rd.again [D.i (0 : Int), D.l (D.L a), D.l (D.L b), D.i (D.I c), D.i (D.I d), D.i (IntKind.wrap IntKind.i64 (D.I e + (1 : Int)))]))))) (T.leaf (Rd.out (Ex.exit 8) [D.i (0 : Int), D.l (D.L a), D.l (D.L b), D.i (D.I c), D.i (D.I d)])) := by kernel_rfl
theorem t8_29_1 (a b c d e f g : D) : roundT C tab8 8 (loopOf C.P 8 29) l8_29 [.i 1, a, b, c, d, e, f, g] =
  T.ite (decide (D.I f < D.I c)) (T.need (yes ((↑(0 + 1) : Int) = (1 : Int) ∧ (↑(Int.toNat (D.I d)) : Int) = (↑(List.length (D.L g)) : Int) ∧ fewVZ (D.L a) (D.L b) ∧ ((0 : Int) ≤ D.I e ∧ D.I e < (↑(List.length (D.L b)) : Int)) ∧ (0 : Int) ≤ (0 : Int) ∧ (0 : Int) ≤ (↑(List.length (D.L a)) : Int))) (T.need (yes ((↑(0 + 1) : Int) = (1 : Int) ∧ (↑(Int.toNat (↑(Int.toNat (D.I d)) : Int)) : Int) = (↑(List.length (D.L g)) : Int) ∧ List.length (D.L g) ≤ 1000000000 ∧ (0 : Int) ≤ (0 : Int) ∧ (0 : Int) ≤ (↑(List.length (D.L g)) : Int))) (T.ite ((false || anyB (thB (D.L a) (List.getD (D.L b) (Int.toNat (D.I e)) []) (D.I f)) (Int.toNat (0 : Int)) (List.length (D.L a) - Int.toNat (0 : Int))) == (false || anyB (gpB (D.L g) (D.I e) (D.I f)) (Int.toNat (0 : Int)) (List.length (D.L g) - Int.toNat (0 : Int)))) (T.leaf (Rd.out Ex.ret [D.b false])) (T.leaf (Rd.again [D.i (1 : Int), D.l (D.L a), D.l (D.L b), D.i (D.I c), D.i (↑(Int.toNat (↑(Int.toNat (↑(Int.toNat (D.I d)) : Int)) : Int)) : Int), D.i (D.I e), D.i (IntKind.wrap IntKind.i64 (D.I f + (1 : Int))), D.l (D.L g)]))))) (T.leaf (Rd.out (Ex.exit 8) [D.i (1 : Int), D.l (D.L a), D.l (D.L b), D.i (D.I c), D.i (↑(Int.toNat (D.I d)) : Int), D.i (D.I e), D.l (D.L g)])) := by kernel_rfl
theorem t8_33_0 (a b c d e f g h : D) : roundT C tab8 8 (loopOf C.P 8 33) l8_33 [.i 0, a, b, c, d, e, f, g, h] =
  T.ite (decide (D.I h < (↑(List.length (D.L a)) : Int))) (T.ite (D.B f) (T.leaf (Rd.again [D.i (0 : Int), D.l (D.L a), D.l (D.L b), D.i (D.I c), D.i (D.I d), D.i (D.I e), D.b true, D.b (D.B g), D.i (IntKind.wrap IntKind.i64 (D.I h + (1 : Int)))])) (T.need (decide ((0 : Int) ≤ D.I h ∧ D.I h < (↑(List.length (D.L a)) : Int))) (T.need (decide ((0 : Int) ≤ D.I d ∧ D.I d < (↑(List.length (D.L b)) : Int))) (T.ite (D.I (List.getD (List.getD (D.L a) (Int.toNat (D.I h)) []) 0 default) == D.I (List.getD (List.getD (D.L b) (Int.toNat (D.I d)) []) 0 default)) (T.need (decide ((0 : Int) ≤ D.I h ∧ D.I h < (↑(List.length (D.L a)) : Int))) (T.ite (decide (D.I (List.getD (List.getD (D.L a) (Int.toNat (D.I h)) []) (0 + 1 + 1) default) ≤ D.I e)) (T.need (decide ((0 : Int) ≤ D.I h ∧ D.I h < (↑(List.length (D.L a)) : Int))) (T.ite (decide (D.I e < D.I (List.getD (List.getD (D.L a) (Int.toNat (D.I h)) []) (0 + 1 + 1 + 1) default))) (T.need (decide ((0 : Int) ≤ D.I h ∧ D.I h < (↑(List.length (D.L a)) : Int))) (T.need (decide ((0 : Int) ≤ D.I d ∧ D.I d < (↑(List.length (D.L b)) : Int))) (T.need (decide ((0 : Int) ≤ D.I d ∧ D.I d < (↑(List.length (D.L b)) : Int))) (T.leaf (Rd.again [D.i (0 : Int), D.l (D.L a), D.l (D.L b), D.i (D.I c), D.i (D.I d), D.i (D.I e), D.b (IntKind.wrap IntKind.i64 (↑(BitVec.toNat (BitVec.ofInt (IntKind.bits IntKind.i64) (D.I (List.getD (List.getD (D.L a) (Int.toNat (D.I h)) []) (0 + 1) default)) &&& BitVec.ofInt (IntKind.bits IntKind.i64) (D.I (List.getD (List.getD (D.L b) (Int.toNat (D.I d)) []) (0 + 1) default)))) : Int) == D.I (List.getD (List.getD (D.L b) (Int.toNat (D.I d)) []) (0 + 1) default)), D.b (D.B g), D.i (IntKind.wrap IntKind.i64 (D.I h + (1 : Int)))]))))) (T.leaf (Rd.again [D.i (0 : Int), D.l (D.L a), D.l (D.L b), D.i (D.I c), D.i (D.I d), D.i (D.I e), D.b false, D.b (D.B g), D.i (IntKind.wrap IntKind.i64 (D.I h + (1 : Int)))])))) (T.leaf (Rd.again [D.i (0 : Int), D.l (D.L a), D.l (D.L b), D.i (D.I c), D.i (D.I d), D.i (D.I e), D.b false, D.b (D.B g), D.i (IntKind.wrap IntKind.i64 (D.I h + (1 : Int)))])))) (T.leaf (Rd.again [D.i (0 : Int), D.l (D.L a), D.l (D.L b), D.i (D.I c), D.i (D.I d), D.i (D.I e), D.b false, D.b (D.B g), D.i (IntKind.wrap IntKind.i64 (D.I h + (1 : Int)))])))))) (T.leaf (Rd.out (Ex.exit 10) [D.i (0 : Int), D.l (D.L a), D.l (D.L b), D.i (D.I c), D.i (D.I d), D.i (D.I e), D.b (D.B f), D.b (D.B g)])) := by kernel_rfl
theorem t8_33_1 (a b c d e f g h i j : D) : roundT C tab8 8 (loopOf C.P 8 33) l8_33 [.i 1, a, b, c, d, e, f, g, h, i, j] =
  T.ite (decide (D.I i < (↑(List.length (D.L a)) : Int))) (T.ite (D.B g) (T.leaf (Rd.again [D.i (1 : Int), D.l (D.L a), D.l (D.L b), D.i (D.I c), D.i (↑(Int.toNat (D.I d)) : Int), D.i (D.I e), D.i (D.I f), D.b true, D.b (D.B h), D.i (IntKind.wrap IntKind.i64 (D.I i + (1 : Int))), D.l (D.L j)])) (T.need (decide ((0 : Int) ≤ D.I i ∧ D.I i < (↑(List.length (D.L a)) : Int))) (T.need (decide ((0 : Int) ≤ D.I e ∧ D.I e < (↑(List.length (D.L b)) : Int))) (T.ite (D.I (List.getD (List.getD (D.L a) (Int.toNat (D.I i)) []) 0 default) == D.I (List.getD (List.getD (D.L b) (Int.toNat (D.I e)) []) 0 default)) (T.need (decide ((0 : Int) ≤ D.I i ∧ D.I i < (↑(List.length (D.L a)) : Int))) (T.ite (decide (D.I (List.getD (List.getD (D.L a) (Int.toNat (D.I i)) []) (0 + 1 + 1) default) ≤ D.I f)) (T.need (decide ((0 : Int) ≤ D.I i ∧ D.I i < (↑(List.length (D.L a)) : Int))) (T.ite (decide (D.I f < D.I (List.getD (List.getD (D.L a) (Int.toNat (D.I i)) []) (0 + 1 + 1 + 1) default))) (T.need (decide ((0 : Int) ≤ D.I i ∧ D.I i < (↑(List.length (D.L a)) : Int))) (T.need (decide ((0 : Int) ≤ D.I e ∧ D.I e < (↑(List.length (D.L b)) : Int))) (T.need (decide ((0 : Int) ≤ D.I e ∧ D.I e < (↑(List.length (D.L b)) : Int))) (T.leaf (Rd.again [D.i (1 : Int), D.l (D.L a), D.l (D.L b), D.i (D.I c), D.i (↑(Int.toNat (D.I d)) : Int), D.i (D.I e), D.i (D.I f), D.b (IntKind.wrap IntKind.i64 (↑(BitVec.toNat (BitVec.ofInt (IntKind.bits IntKind.i64) (D.I (List.getD (List.getD (D.L a) (Int.toNat (D.I i)) []) (0 + 1) default)) &&& BitVec.ofInt (IntKind.bits IntKind.i64) (D.I (List.getD (List.getD (D.L b) (Int.toNat (D.I e)) []) (0 + 1) default)))) : Int) == D.I (List.getD (List.getD (D.L b) (Int.toNat (D.I e)) []) (0 + 1) default)), D.b (D.B h), D.i (IntKind.wrap IntKind.i64 (D.I i + (1 : Int))), D.l (D.L j)]))))) (T.leaf (Rd.again [D.i (1 : Int), D.l (D.L a), D.l (D.L b), D.i (D.I c), D.i (↑(Int.toNat (D.I d)) : Int), D.i (D.I e), D.i (D.I f), D.b false, D.b (D.B h), D.i (IntKind.wrap IntKind.i64 (D.I i + (1 : Int))), D.l (D.L j)])))) (T.leaf (Rd.again [D.i (1 : Int), D.l (D.L a), D.l (D.L b), D.i (D.I c), D.i (↑(Int.toNat (D.I d)) : Int), D.i (D.I e), D.i (D.I f), D.b false, D.b (D.B h), D.i (IntKind.wrap IntKind.i64 (D.I i + (1 : Int))), D.l (D.L j)])))) (T.leaf (Rd.again [D.i (1 : Int), D.l (D.L a), D.l (D.L b), D.i (D.I c), D.i (↑(Int.toNat (D.I d)) : Int), D.i (D.I e), D.i (D.I f), D.b false, D.b (D.B h), D.i (IntKind.wrap IntKind.i64 (D.I i + (1 : Int))), D.l (D.L j)])))))) (T.leaf (Rd.out (Ex.exit 10) [D.i (1 : Int), D.l (D.L a), D.l (D.L b), D.i (D.I c), D.i (↑(Int.toNat (D.I d)) : Int), D.i (D.I e), D.i (D.I f), D.b (D.B g), D.b (D.B h), D.l (D.L j)])) := by kernel_rfl
theorem t8_37_0 (a b c d e f g h : D) : roundT C tab8 8 (loopOf C.P 8 37) l8_37 [.i 0, a, b, c, d, e, f, g, h] =
  T.ite (decide (D.I h < (↑0 : Int))) (T.ite (D.B g) (T.leaf (Rd.again [D.i (0 : Int), D.l (D.L a), D.l (D.L b), D.i (D.I c), D.i (D.I d), D.i (D.I e), D.b (D.B f), D.b true, D.i (IntKind.wrap IntKind.i64 (D.I h + (1 : Int)))])) T.fail) (T.leaf (Rd.out (Ex.exit 12) [D.i (0 : Int), D.l (D.L a), D.l (D.L b), D.i (D.I c), D.i (D.I d), D.i (D.I e), D.b (D.B f), D.b (D.B g)])) := by kernel_rfl
theorem t8_37_1 (a b c d e f g h i j : D) : roundT C tab8 8 (loopOf C.P 8 37) l8_37 [.i 1, a, b, c, d, e, f, g, h, i, j] =
  T.ite (decide (D.I i < (↑(Int.toNat (D.I d)) : Int))) (T.ite (D.B h) (T.leaf (Rd.again [D.i (1 : Int), D.l (D.L a), D.l (D.L b), D.i (D.I c), D.i (↑(Int.toNat (D.I d)) : Int), D.i (D.I e), D.i (D.I f), D.b (D.B g), D.b true, D.i (IntKind.wrap IntKind.i64 (D.I i + (1 : Int))), D.l (D.L j)])) (T.need (decide ((0 : Int) ≤ D.I i ∧ D.I i < (↑(Int.toNat (D.I d)) : Int))) (T.need (decide (Int.toNat (D.I i) < List.length (D.L j))) (T.ite (D.I (List.getD (List.getD (D.L j) (Int.toNat (D.I i)) []) 0 default) == D.I e) (T.need (decide ((0 : Int) ≤ D.I i ∧ D.I i < (↑(Int.toNat (D.I d)) : Int))) (T.need (decide (Int.toNat (D.I i) < List.length (D.L j))) (T.ite (decide (D.I (List.getD (List.getD (D.L j) (Int.toNat (D.I i)) []) (0 + 1) default) ≤ D.I f)) (T.need (decide ((0 : Int) ≤ D.I i ∧ D.I i < (↑(Int.toNat (D.I d)) : Int))) (T.need (decide (Int.toNat (D.I i) < List.length (D.L j))) (T.leaf (Rd.again [D.i (1 : Int), D.l (D.L a), D.l (D.L b), D.i (D.I c), D.i (↑(Int.toNat (D.I d)) : Int), D.i (D.I e), D.i (D.I f), D.b (D.B g), D.b (decide (D.I f < D.I (List.getD (List.getD (D.L j) (Int.toNat (D.I i)) []) (0 + 1 + 1) default))), D.i (IntKind.wrap IntKind.i64 (D.I i + (1 : Int))), D.l (D.L j)])))) (T.leaf (Rd.again [D.i (1 : Int), D.l (D.L a), D.l (D.L b), D.i (D.I c), D.i (↑(Int.toNat (D.I d)) : Int), D.i (D.I e), D.i (D.I f), D.b (D.B g), D.b false, D.i (IntKind.wrap IntKind.i64 (D.I i + (1 : Int))), D.l (D.L j)]))))) (T.leaf (Rd.again [D.i (1 : Int), D.l (D.L a), D.l (D.L b), D.i (D.I c), D.i (↑(Int.toNat (D.I d)) : Int), D.i (D.I e), D.i (D.I f), D.b (D.B g), D.b false, D.i (IntKind.wrap IntKind.i64 (D.I i + (1 : Int))), D.l (D.L j)])))))) (T.leaf (Rd.out (Ex.exit 12) [D.i (1 : Int), D.l (D.L a), D.l (D.L b), D.i (D.I c), D.i (↑(Int.toNat (D.I d)) : Int), D.i (D.I e), D.i (D.I f), D.b (D.B g), D.b (D.B h), D.l (D.L j)])) := by kernel_rfl
end Go.Proofs.Ytgmefblkmidglaa
namespace Go.Proofs.Ytgmefblkmidglaa
open Go.Lite
set_option linter.unusedVariables false
set_option maxRecDepth 100000
theorem t31 (a b c : D) : fnT C tab31 31 s31 [a, b, c] =
  T.need (yes (List.length (D.L a) < big ∧ (0 : Int) ≤ (0 : Int) ∧ (0 : Int) ≤ (↑(List.length (D.L a)) : Int))) (T.ite (allFrom (rowT (D.L a) (D.I b) (D.I c)) (Int.toNat (0 : Int)) (List.length (D.L a) - Int.toNat (0 : Int))) (T.leaf [D.b true]) (T.leaf [D.b false])) := by kernel_rfl
theorem t31_2 (a b c d : D) : roundT C tab31 31 (loopOf C.P 31 2) l31_2 [a, b, c, d] =
  T.ite (decide (D.I d < (↑(List.length (D.L a)) : Int))) (T.need (decide ((0 : Int) ≤ D.I d ∧ D.I d < (↑(List.length (D.L a)) : Int))) (T.ite (decide (D.I (List.getD (List.getD (D.L a) (Int.toNat (D.I d)) []) 0 default) < (0 : Int))) (T.leaf (Rd.out Ex.ret [D.b false])) (T.need (decide ((0 : Int) ≤ D.I d ∧ D.I d < (↑(List.length (D.L a)) : Int))) (T.ite (decide (D.I (List.getD (List.getD (D.L a) (Int.toNat (D.I d)) []) 0 default) ≥ D.I b)) (T.leaf (Rd.out Ex.ret [D.b false])) (T.need (decide ((0 : Int) ≤ D.I d ∧ D.I d < (↑(List.length (D.L a)) : Int))) (T.ite (decide (D.I (List.getD (List.getD (D.L a) (Int.toNat (D.I d)) []) (0 + 1) default) < (0 : Int))) (T.leaf (Rd.out Ex.ret [D.b false])) (T.need (decide ((0 : Int) ≤ D.I d ∧ D.I d < (↑(List.length (D.L a)) : Int))) (T.need (decide ((0 : Int) ≤ D.I d ∧ D.I d < (↑(List.length (D.L a)) : Int))) (T.ite (decide (D.I (List.getD (List.getD (D.L a) (Int.toNat (D.I d)) []) (0 + 1) default) ≥ D.I (List.getD (List.getD (D.L a) (Int.toNat (D.I d)) []) (0 + 1 + 1) default))) (T.leaf (Rd.out Ex.ret [D.b false])) (T.need (decide ((0 : Int) ≤ D.I d ∧ D.I d < (↑(List.length (D.L a)) : Int))) (T.ite (decide (D.I (List.getD (List.getD (D.L a) (Int.toNat (D.I d)) []) (0 + 1 + 1) default) > D.I c)) (T.leaf (Rd.out Ex.ret [D.b false])) (T.ite (decide (D.I d > (0 : Int))) (T.need (decide ((0 : Int) ≤ D.I d ∧ D.I d < (↑(List.length (D.L a)) : Int))) (T.need (decide ((0 : Int) ≤ IntKind.wrap IntKind.i64 (D.I d - (1 : Int)) ∧ IntKind.wrap IntKind.i64 (D.I d - (1 : Int)) < (↑(List.length (D.L a)) : Int))) (T.ite (decide (D.I (List.getD (List.getD (D.L a) (Int.toNat (D.I d)) []) 0 default) < D.I (List.getD (List.getD (D.L a) (Int.toNat (IntKind.wrap IntKind.i64 (D.I d - (1 : Int)))) []) 0 default))) (T.leaf (Rd.out Ex.ret [D.b false])) (T.need (decide ((0 : Int) ≤ D.I d ∧ D.I d < (↑(List.length (D.L a)) : Int))) (T.need (decide ((0 : Int) ≤ IntKind.wrap IntKind.i64 (D.I d - (1 : Int)) ∧ IntKind.wrap IntKind.i64 (D.I d - (1 : Int)) < (↑(List.length (D.L a)) : Int))) (T.ite (D.I (List.getD (List.getD (D.L a) (Int.toNat (D.I d)) []) 0 default) == D.I (List.getD (List.getD (D.L a) (Int.toNat (IntKind.wrap IntKind.i64 (D.I d - (1 : Int)))) []) 0 default)) (T.need (decide ((0 : Int) ≤ D.I d ∧ D.I d < (↑(List.length (D.L a)) : Int))) (T.need (decide ((0 : Int) ≤ IntKind.wrap IntKind.i64 (D.I d - (1 : Int)) ∧ IntKind.wrap IntKind.i64 (D.I d - (1 : Int)) < (↑(List.length (D.L a)) : Int))) (T.ite (decide (D.I (List.getD (List.getD (D.L a) (Int.toNat (D.I d)) []) (0 + 1) default) ≤ D.I (List.getD (List.getD (D.L a) (Int.toNat (IntKind.wrap IntKind.i64 (D.I d - (1 : Int)))) []) (0 + 1 + 1) default))) (T.leaf (Rd.out Ex.ret [D.b false])) (T.leaf (Rd.again [D.l (D.L a), D.i (D.I b), D.i (D.I c), D.i (IntKind.wrap IntKind.i64 (D.I d + (1 : Int)))]))))) (T.leaf (Rd.again [D.l (D.L a), D.i (D.I b), D.i (D.I c), D.i (IntKind.wrap IntKind.i64 (D.I d + (1 : Int)))])))))))) (T.leaf (Rd.again [D.l (D.L a), D.i (D.I b), D.i (D.I c), D.i (IntKind.wrap IntKind.i64 (D.I d + (1 : Int)))])))))))))))))) (T.leaf (Rd.out (Ex.exit 0) [])) := by kernel_rfl
end Go.Proofs.Ytgmefblkmidglaa
namespace Go.Proofs.Ytgmefblkmidglaa
open Go.Lite
set_option maxRecDepth 100000
set_option linter.unusedVariables false
theorem ok81 (n : Nat) : FnOKW C (n + 1) 81 (mkFW s81 G81) := by
  refine fn_ofW hC (sp := sp81) (lp := lp81) (sw := sw81) trivial trivial (by kernel_rfl) [] (by kernel_rfl) rfl (fun k hk => by cases hk) fun ds r h => ?_
  unfold G81 at h
  split at h
  · rename_i m r v a b c t
    exact (congrArg T.run (t81 m r v a b c t)).trans h
  · cases h
theorem gapP_len (i : Int) (e : List D) (s : List (List D) × Bool) : s.1.length ≤ (gapP i e s).1.length ∧ (gapP i e s).1.length ≤ s.1.length + 1 := by
  unfold gapP
  split
  · exact ⟨Nat.le_refl _, Nat.le_succ _⟩
  · split
    · simp only [setTo_len]; omega
    · simp only [List.length_append, List.length_cons, List.length_nil]; omega
theorem gapsF_len (i : Int) : ∀ (L : List (List D)) (s : List (List D) × Bool), s.1.length ≤ (gapsF i L s).1.length ∧ (gapsF i L s).1.length ≤ s.1.length + L.length
  | [], s => ⟨Nat.le_refl _, Nat.le_refl _⟩
  | e :: es, s => by
    have h1 := gapsF_len i es (gapP i e s)
    have h2 := gapP_len i e s
    simp only [gapsF, List.length_cons]
    omega
theorem head96 (e : List D) : y96.head e = y96.head [e.getD 0 default, e.getD 1 default, e.getD 2 default] := by
  match e with
  | [] => rfl
  | [_] => rfl
  | [_, _] => rfl
  | _ :: _ :: _ :: _ => rfl
noncomputable def R53 (ds el : List D) : Option (Rd × List D) := (roundRT C tab53 53 (rangeOf C.P 53 10) 0 ((headA h53_10 ds).h.length + (y96.head el).2.length) [1, 3, 4, 8, 9, 10, 12, 14, 15, 16, 25] h53_10 y96 ds el).run
theorem R53_eq {j : D} {n : Int} (r : List D) (e : List D) (h : j.I = n) : R53 (j :: r) e = R53 (.i n :: r) [e.getD 0 default, e.getD 1 default, e.getD 2 default] := by
  unfold R53 roundRT
  rw [headA_head r h (by decide), head96 e]
theorem fold53 (L : List (List D)) : ∀ (ds : List D) (rr : Ex × List D), (G53_10 L ds).run = some rr → FoldR R53 y96.give (fun a b => headA h53_10 a = headA h53_10 b) ds L rr.1 rr.2 := by
  have hby : Try.prog.types[57].bytes = 24 := by kernel_rfl
  induction L with
  | nil =>
    intro ds rr hh
    unfold G53_10 at hh
    split at hh
    · rename_i j v h z q i n r i' o
      obtain ⟨hp, hh⟩ := need_some hh
      rw [yes_iff] at hp
      cases hh
      refine .nil ?_
      rw [headA_head _ hp.1 (by decide)]
      rw [show headA h53_10 [.i 0, v, h, z, q, i, n, r, i', o] = headA h53_10 [.i 0, .l v.L, .i h.I, .l z.L, .i q.I, .i i.I, .i n.I, .l r.L, .i i'.I, .b o.B] from rfl, hp.2.1]
    · rename_i j v h z q i n r m i' o g
      obtain ⟨hp, hh⟩ := need_some hh
      rw [yes_iff] at hp
      cases hh
      refine .nil ?_
      rw [headA_head _ hp.1 (by decide)]
      rw [show headA h53_10 [.i 1, v, h, z, q, i, n, r, m, i', o, g] = headA h53_10 [.i 1, .l v.L, .i h.I, .l z.L, .i q.I, .i i.I, .i n.I, .l r.L, .i m.I, .i i'.I, .b o.B, .l g.L] from rfl, hp.2.1]
      rfl
    · cases hh
  | cons e es ih =>
    intro ds rr hh
    unfold G53_10 at hh
    split at hh
    · rename_i j v h z q i n r i' o
      obtain ⟨hp, hh⟩ := need_some hh
      rw [yes_iff] at hp
      obtain ⟨hj, ho, hl⟩ := hp
      simp only [List.length_cons] at hl
      simp only [gapsF] at hh
      have key : ∃ ds', R53 [.i 0, v, h, z, q, i, n, r, i', o] [e.getD 0 default, e.getD 1 default, e.getD 2 default] = some (.again ds', []) ∧ (G53_10 es ds').run = some rr := by
        rw [show R53 [.i 0, v, h, z, q, i, n, r, i', o] [e.getD 0 default, e.getD 1 default, e.getD 2 default] = _ from congrArg T.run (t53_r10_0 v h z q i n r i' o (e.getD 0 default) (e.getD 1 default) (e.getD 2 default))]
        cases hc : (e.getD 2 default).B with
        | true =>
          have hg : gapP i'.I e ([], false) = ([], false) := by
            have : bx e 2 = true := hc
            unfold gapP
            rw [this]; rfl
          rw [hg] at hh
          exact ⟨_, rfl, (need_yes ⟨rfl, rfl, by omega⟩).trans hh⟩
        | false =>
          have hg : gapP i'.I e ([], false) = ([[.i i'.I, .i (ix e 0), .i (ix e 1)]], true) := by
            have : bx e 2 = false := hc
            unfold gapP
            rw [this]; rfl
          rw [hg] at hh
          have hne := (gapsF_len i'.I es ([[.i i'.I, .i (ix e 0), .i (ix e 1)]], true)).1
          rw [empty_false (Nat.lt_of_lt_of_le (by simp) hne)] at hh
          refine ⟨_, go_false rfl (go_false ho (go_need rfl (go_false rfl (go_need rfl rfl)))), (need_yes ⟨rfl, rfl, by simp only [L_l]; exact Nat.zero_lt_one, by omega, by simp only [I_i]; omega⟩).trans hh⟩
      obtain ⟨ds', k1, k2⟩ := key
      refine .again (x' := []) (ds' := ds') ?_ (fun h => by cases h) (ih _ _ k2)
      rw [R53_eq _ e hj]
      exact k1
    · rename_i j v h z q i n r m i' o g
      obtain ⟨hp, hh⟩ := need_some hh
      rw [yes_iff] at hp
      obtain ⟨hj, hm, hg0, hl, hml⟩ := hp
      simp only [List.length_cons] at hl hml
      simp only [gapsF] at hh
      have hnext : ∀ (x : List (List D)) (b : Bool), gapP i'.I e (g.L, o.B) = (x, b) → (G53_10 es [.i 1, .l v.L, .i h.I, .l z.L, .i q.I, .i i.I, .i n.I, .l r.L, .i x.length, .i i'.I, .b b, .l x]).run = some rr := fun x b hx => by
        have h1 := gapP_len i'.I e (g.L, o.B)
        rw [hx] at hh h1
        simp only at h1
        exact (need_yes ⟨rfl, rfl, by simp only [L_l]; omega, by omega, by simp only [I_i]; omega⟩).trans hh
      have key : ∃ ds', R53 [.i 1, v, h, z, q, i, n, r, m, i', o, g] [e.getD 0 default, e.getD 1 default, e.getD 2 default] = some (.again ds', []) ∧ (G53_10 es ds').run = some rr := by
        rw [show R53 [.i 1, v, h, z, q, i, n, r, m, i', o, g] [e.getD 0 default, e.getD 1 default, e.getD 2 default] = _ from congrArg T.run (t53_r10_1 v h z q i n r m i' o g (e.getD 0 default) (e.getD 1 default) (e.getD 2 default))]
        simp only [hm, Int.toNat_natCast, upd3']
        cases hc : (e.getD 2 default).B with
        | true =>
          have hb : bx e 2 = true := hc
          exact ⟨_, rfl, hnext g.L false (by unfold gapP; rw [hb]; rfl)⟩
        | false =>
          have hb : bx e 2 = false := hc
          cases ho : o.B with
          | true =>
            have hw : IntKind.i64.wrap ((g.L.length : Int) - 1) = (g.L.length : Int) - 1 := wrap_pred (by omega)
            have := hnext (setTo g.L (ix e 1)) true (by unfold gapP; rw [hb, ho]; rfl)
            rw [setTo_len] at this
            simp only [hw, toNat_pred]
            exact ⟨_, go_false rfl (go_true rfl (go_dec (by omega) (go_dec (by omega) rfl))), this⟩
          | false =>
            have := hnext (g.L ++ [[.i i'.I, .i (ix e 0), .i (ix e 1)]]) true (by unfold gapP; rw [hb, ho]; rfl)
            simp only [List.length_append, List.length_cons, List.length_nil, Nat.zero_add] at this
            simp only [List.take_length]
            simp only [List.length_cons, List.length_nil, Nat.zero_add]
            exact ⟨_, go_false rfl (go_false rfl (go_need rfl (go_false rfl (go_dec (by rw [hby]; omega) rfl)))), this⟩
      obtain ⟨ds', k1, k2⟩ := key
      refine .again (x' := []) (ds' := ds') ?_ (fun h => by cases h) (ih _ _ k2)
      rw [R53_eq _ e hj]
      exact k1
    · cases hh
theorem ok53_10 (n : Nat) : CodeSim C (n + 7) 0 53 (rangeOf C.P 53 10).code none 0 (rangeS 0 [1, 3, 4, 8, 9, 10, 12, 14, 15, 16, 25] (rangeOf C.P 53 10).1 it53_10 h53_10 G53_10) :=
  range_of0 hC (sp := sp53) (lp := lp53) (sw := sw53) (rg := rg53) (Y := y96) (yOK_mk _ _ _) trivial ⟨ok81 (n + 6), trivial⟩ 10 0 (by exact ⟨by kernel_rfl, by kernel_rfl⟩) (by exact ⟨by kernel_rfl, by kernel_rfl⟩)
    (by kernel_rfl) (by kernel_rfl) (it := it53_10) ⟨ok96 n, trivial⟩ fun L ds rr h => fold53 L ds rr h
def mu53 : List D → Nat
  | [_, _, _, _, q, i, _, _] => (q.I - i.I).toNat
  | [_, _, _, _, q, i, _, _, _, _] => (q.I - i.I).toNat
  | _ => 0
theorem gapsZ_len (n : Int) (r v z : List (List D)) (h : Int) : ∀ (k i : Nat) (g : List (List D)), g.length ≤ (gapsZ n r v z h i k g).length
  | 0, _, g => Nat.le_refl _
  | k + 1, i, g => by
    simp only [gapsZ]
    exact Nat.le_trans (show g.length ≤ _ from (gapsF_len _ _ (g, false)).1) (gapsZ_len n r v z h k (i + 1) _)
theorem ok53_3 (n : Nat) : LoopSim C (n + 7) 53 (loopOf C.P 53 3) (mkL l53_3 G53_3) := by
  refine loop_ofR hC (sp := sp53) (lp := lp53) (sw := sw53) (rg := rg53) trivial ⟨ok81 (n + 6), trivial⟩ 0 [] [10] (by kernel_rfl) rfl (by kernel_rfl) (by kernel_rfl) (fun k hk => by cases hk)
    (fun k hk L hL => by simp at hk; subst hk; cases hL; exact ok53_10 n) (by kernel_rfl) mu53 fun ds rr hh => ?_
  unfold G53_3 at hh
  split at hh
  · rename_i j v h z q i n' r
    obtain ⟨hp, hh⟩ := need_some hh
    rw [yes_iff] at hp
    obtain ⟨hj, hG, hq, hi0, hi1⟩ := hp
    have hG' := hG
    obtain ⟨hN, hv, hz, hvl, hzl, hh0, hh1⟩ := hG'
    refine ⟨by rw [fuelC]; show (q.I - i.I).toNat < _; omega, ?_⟩
    rw [roundTK_head (j := j) (n := 0) hj (by decide), show roundTK C (mkTabR sp53 lp53 sw53 rg53) 53 (loopOf C.P 53 3) 0 l53_3 [.i 0, v, h, z, q, i, n', r] = _ from t53_3_0 v h z q i n' r]
    obtain ⟨k, hke⟩ : ∃ k : Nat, i.I = k := ⟨i.I.toNat, by omega⟩
    simp only [hke, hq, Int.toNat_natCast, Nat.reduceAdd, ix_def] at hh hi0 hi1 ⊢
    refine rd_if (fun hlt => ?_) fun hge => ?_
    · have hmu : ((z.L.length : Int) - ((k + 1 : Nat) : Int)).toNat < (q.I - i.I).toNat := by omega
      rw [wrap_succ (by omega)]
      rw [show z.L.length - k = (z.L.length - (k + 1)) + 1 by omega] at hh
      simp only [gapsZ] at hh
      have hpl := piece_len n'.I r.L v.L (mk3 (.i (ix (z.L.getD k []) 0)) (.i (ix (z.L.getD k []) 1)) (.i (ix (z.L.getD k []) 2))) h.I h.I.toNat 0
      have hl := (gapsF_len (k : Int) (pieceL n'.I r.L v.L (mk3 (.i (ix (z.L.getD k []) 0)) (.i (ix (z.L.getD k []) 1)) (.i (ix (z.L.getD k []) 2))) h.I h.I.toNat 0) ([], false)).2
      simp only [List.length_nil, Nat.zero_add] at hl
      refine rd_dec (by omega) (rd_yes ⟨hN, hv, zon_of hz (by omega : k < z.L.length), hvl, hh0, hh1⟩ (rd_yes ⟨trivial, trivial, by omega⟩ (rd_ite (fun c => ?_) fun c => ?_)))
      · rw [empty_nil c] at hh
        exact rd_again ((need_yes ⟨rfl, hG, rfl, by simp only [I_i]; omega, by simp only [I_i, L_l]; omega⟩).trans hh) hmu
      · have hpos : 0 < (gapsF (k : Int) (pieceL n'.I r.L v.L (mk3 (.i (ix (z.L.getD k []) 0)) (.i (ix (z.L.getD k []) 1)) (.i (ix (z.L.getD k []) 2))) h.I h.I.toNat 0) ([], false)).1.length := by
          rw [List.length_pos_iff]
          intro he
          rw [he] at c
          cases c
        rw [empty_false (Nat.lt_of_lt_of_le hpos (gapsZ_len n'.I r.L v.L z.L h.I _ _ _))] at hh
        exact rd_again ((need_yes ⟨rfl, hG, rfl, by simp only [I_i, L_l]; omega, rfl, hpos, by simp only [I_i]; omega⟩).trans hh) hmu
    · rw [show z.L.length - k = 0 by omega] at hh
      exact rd_out hh
  · rename_i j v h z q i n' r m g
    obtain ⟨hp, hh⟩ := need_some hh
    rw [yes_iff] at hp
    obtain ⟨hj, hG, hq, hi, hm, hg0, hmb⟩ := hp
    have hG' := hG
    obtain ⟨hN, hv, hz, hvl, hzl, hh0, hh1⟩ := hG'
    refine ⟨by rw [fuelC]; show (q.I - i.I).toNat < _; omega, ?_⟩
    rw [roundTK_head (j := j) (n := 1) hj (by decide), show roundTK C (mkTabR sp53 lp53 sw53 rg53) 53 (loopOf C.P 53 3) 0 l53_3 [.i 1, v, h, z, q, i, n', r, m, g] = _ from t53_3_1 v h z q i n' r m g]
    obtain ⟨k, hke⟩ : ∃ k : Nat, i.I = k := ⟨i.I.toNat, by omega⟩
    rw [hm] at hmb
    simp only [hke, hq, hm, Int.toNat_natCast, Nat.reduceAdd, ix_def] at hh hi hmb ⊢
    refine rd_if (fun hlt => ?_) fun hge => ?_
    · have hmu : ((z.L.length : Int) - ((k + 1 : Nat) : Int)).toNat < (q.I - i.I).toNat := by omega
      rw [wrap_succ (by omega)]
      rw [show z.L.length - k = (z.L.length - (k + 1)) + 1 by omega] at hh
      simp only [gapsZ] at hh
      have hpl := piece_len n'.I r.L v.L (mk3 (.i (ix (z.L.getD k []) 0)) (.i (ix (z.L.getD k []) 1)) (.i (ix (z.L.getD k []) 2))) h.I h.I.toNat 0
      have hl := gapsF_len (k : Int) (pieceL n'.I r.L v.L (mk3 (.i (ix (z.L.getD k []) 0)) (.i (ix (z.L.getD k []) 1)) (.i (ix (z.L.getD k []) 2))) h.I h.I.toNat 0) (g.L, false)
      simp only at hl
      refine rd_dec (by omega) (rd_yes ⟨hN, hv, zon_of hz (by omega : k < z.L.length), hvl, hh0, hh1⟩ (rd_yes ⟨rfl, trivial, hg0, by omega, by omega⟩ (rd_again ((need_yes ⟨rfl, hG, rfl, by simp only [I_i, L_l]; omega, rfl, by simp only [L_l]; omega, by simp only [I_i]; omega⟩).trans hh) hmu)))
    · rw [show z.L.length - k = 0 by omega] at hh
      exact rd_out hh
  · cases hh
theorem ok53 (n : Nat) : FnOK C (n + 8) 53 (mkF s53 G53) := by
  refine fn_ofR hC (sp := sp53) (lp := lp53) (sw := sw53) (rg := rg53) trivial ⟨ok81 (n + 6), trivial⟩ (by kernel_rfl) [3] [] (by kernel_rfl) (by kernel_rfl) (by kernel_rfl) rfl (fun k hk L hL => by
    simp at hk; subst hk; cases hL; exact ok53_3 n) (fun k hk => by cases hk) fun ds rr hh => ?_
  unfold G53 at hh
  split at hh
  · rename_i m r v z t
    obtain ⟨hp, hh⟩ := need_some hh
    rw [yes_iff] at hp
    refine (congrArg T.run (t53 m r v z t)).trans ?_
    rw [← hh]
    simp only [Int.toNat_zero, Nat.sub_zero, Int.toNat_natCast]
    exact go_yes ⟨trivial, hp, trivial, by omega, by omega⟩ rfl
  · cases hh
theorem cover_parts {n : Int} {r v : List (List D)} {most : Int} {z : List (List D)} {h : Int} (hm : most ≤ 1000) (hc : coverB n r v most z h = true) : okG n r v z h := by
  unfold coverB at hc
  rw [Bool.and_eq_true, Bool.and_eq_true, Bool.and_eq_true, decide_eq_true_iff] at hc
  exact ⟨hc.1.1.1, hc.1.2, hc.2, by omega, by omega, by omega, by omega⟩
theorem ok27 (n : Nat) : FnOK C (n + 9) 27 (mkF s27 G27) := by
  refine fn_ofS hC (sp := sp27) (lp := lp27) (sw := sw27) ⟨ok52 (n + 2), ok53 n, trivial⟩ trivial (by kernel_rfl) [] (by kernel_rfl) rfl (fun k hk => by cases hk) fun ds rr hh => ?_
  unfold G27 at hh
  split at hh
  · rename_i m r v z t
    refine (congrArg T.run (t27 m r v z t)).trans ?_
    rw [← hh]
    simp only [Int.toNat_natCast]
    refine go_yes (by omega) (go_not (fun c => by rw [c]; rfl) fun c => ?_)
    rw [c]
    exact go_yes (cover_parts (by omega) c) rfl
  · cases hh
end Go.Proofs.Ytgmefblkmidglaa
namespace Go.Proofs.Ytgmefblkmidglaa
open Go.Lite
set_option maxRecDepth 100000
theorem ok31_2 (n : Nat) : LoopSim C n 31 (loopOf C.P 31 2) (mkL l31_2 G31_2) := by
  refine loop_ofK hC (sp := sp31) (lp := lp31) (sw := sw31) trivial trivial 0 [] (by kernel_rfl) rfl (fun k hk => by cases hk) (by kernel_rfl) (fun ds => (((ds.getD 0 default).L.length : Int) - (ds.getD 3 default).I).toNat) fun ds rr hh => ?_
  unfold G31_2 at hh
  split at hh
  · rename_i g zs h i
    obtain ⟨hp, hh⟩ := need_some hh
    rw [yes_iff] at hp
    obtain ⟨hl, hi0, hi1⟩ := hp
    have hb := big_eq
    refine ⟨by rw [fuelC]; simp; omega, ?_⟩
    rw [show roundTK C (mkTab sp31 lp31 sw31) 31 (loopOf C.P 31 2) 0 l31_2 [g, zs, h, i] = _ from t31_2 g zs h i]
    obtain ⟨k, hk⟩ : ∃ k : Nat, i.I = k := ⟨i.I.toNat, by omega⟩
    simp only [hk, Int.toNat_natCast, Nat.reduceAdd, ix_def] at hh hi0 hi1 ⊢
    refine rd_if (fun hlt => ?_) fun hge => rd_out (all_end hh (by omega))
    obtain ⟨s1, s2⟩ := all_step hh (by omega : k < g.L.length)
    have hmu : ((g.L.length : Int) - ((k + 1 : Nat) : Int)).toNat < ((g.L.length : Int) - i.I).toNat := by omega
    have e0 : ∀ b : Bool, decide ((0 ≤ ix (g.L.getD k []) 0 ∧ ix (g.L.getD k []) 0 < zs.I) ∧ (0 ≤ ix (g.L.getD k []) 1 ∧ ix (g.L.getD k []) 1 < ix (g.L.getD k []) 2) ∧ ix (g.L.getD k []) 2 ≤ h.I) = b → rowT g.L zs.I h.I k = (b && (k == 0 || apB g.L k)) := fun b e => by rw [← e]; rfl
    have f1 : ¬ ((0 ≤ ix (g.L.getD k []) 0 ∧ ix (g.L.getD k []) 0 < zs.I) ∧ (0 ≤ ix (g.L.getD k []) 1 ∧ ix (g.L.getD k []) 1 < ix (g.L.getD k []) 2) ∧ ix (g.L.getD k []) 2 ≤ h.I) → some (Ex.ret, [D.b false]) = some rr := fun hn => s1 (by rw [e0 _ (decide_eq_false hn)]; rfl)
    have go : rowT g.L zs.I h.I k = true → (G31_2 [.l g.L, .i zs.I, .i h.I, .i ((k + 1 : Nat) : Int)]).run = some rr := fun h' => (need_yes ⟨hl, by simp only [I_i]; omega, by simp only [I_i, L_l]; omega⟩).trans (s2 h')
    rw [wrap_succ (by omega)]
    refine rd_dec (by omega) (rd_if (fun c => rd_out (f1 (by omega))) fun c1 => rd_dec (by omega) (rd_if (fun c => rd_out (f1 (by omega))) fun c2 => rd_dec (by omega) (rd_if (fun c => rd_out (f1 (by omega))) fun c3 => rd_dec (by omega) (rd_dec (by omega) (rd_if (fun c => rd_out (f1 (by omega))) fun c4 => rd_dec (by omega) (rd_if (fun c => rd_out (f1 (by omega))) fun c5 => ?_))))))
    have e1 := e0 true (decide_eq_true (by omega))
    rw [Bool.true_and] at e1
    rw [e1] at s1 go
    refine rd_if (fun k0 => ?_) fun k0 => rd_again (go (by rw [show k = 0 by omega]; rfl)) hmu
    have hk0 : (k == 0) = false := beq_eq_false_iff_ne.2 (by omega)
    have hw1 : IntKind.i64.wrap ((k : Int) - 1) = ((k - 1 : Nat) : Int) := by rw [wrap_id (by omega) (by omega)]; omega
    rw [hk0, Bool.false_or] at s1 go
    have e2 : apB g.L k = decide (ix (g.L.getD (k - 1) []) 0 < ix (g.L.getD k []) 0 ∨ ix (g.L.getD (k - 1) []) 0 = ix (g.L.getD k []) 0 ∧ ix (g.L.getD (k - 1) []) 2 < ix (g.L.getD k []) 1) := rfl
    rw [e2] at s1 go
    simp only [hw1, Int.toNat_natCast]
    refine rd_dec (by omega) (rd_dec (by omega) (rd_if (fun c => rd_out (s1 (decide_eq_false (by omega)))) fun c6 => rd_dec (by omega) (rd_dec (by omega) (rd_ite (fun c => ?_) fun c => ?_))))
    · have c := eq_of_beq c
      exact rd_dec (by omega) (rd_dec (by omega) (rd_if (fun c7 => rd_out (s1 (decide_eq_false (by omega)))) fun c7 => rd_again (go (decide_eq_true (by omega))) hmu))
    · have c : ix (g.L.getD k []) 0 ≠ ix (g.L.getD (k - 1) []) 0 := ne_of_beq_false c
      exact rd_again (go (decide_eq_true (by omega))) hmu
  · cases hh
theorem ok31 (n : Nat) : FnOK C (n + 1) 31 (mkF s31 G31) := by
  refine fn_ofS hC (sp := sp31) (lp := lp31) (sw := sw31) trivial trivial (by kernel_rfl) [2] (by kernel_rfl) (by kernel_rfl) (fun k hk L hL => by simp at hk; subst hk; cases hL; exact ok31_2 n) fun ds rr hh => ?_
  unfold G31 at hh
  split at hh
  · rename_i g zs h
    obtain ⟨hp, hh⟩ := need_some hh
    rw [yes_iff] at hp
    refine (congrArg T.run (t31 g zs h)).trans ?_
    rw [← hh]
    unfold tidyB
    simp only [Int.toNat_zero, Nat.sub_zero]
    exact go_yes ⟨hp, by omega, by omega⟩ (go_ite (fun c => by rw [c]) fun c => by rw [c])
  · cases hh
end Go.Proofs.Ytgmefblkmidglaa
namespace Go.Proofs.Ytgmefblkmidglaa
open Go.Lite
set_option maxRecDepth 100000
theorem any_step {p : Nat → Bool} {i len : Nat} (h : i < len) : anyB p i (len - i) = (p i || anyB p (i + 1) (len - (i + 1))) := by
  unfold anyB
  rw [show len - i = (len - (i + 1)) + 1 by omega]
  simp only [allFrom]
  cases p i <;> simp
theorem any_end {p : Nat → Bool} {i len : Nat} (h : ¬ i < len) : anyB p i (len - i) = false := by
  unfold anyB
  rw [show len - i = 0 by omega]
  rfl
theorem bytes60 : Try.prog.types[60].bytes = 32 := by kernel_rfl
theorem str_mk (a : Int) (c : List D) : [D.i (ix c 0), D.i (IntKind.wrap IntKind.i64 (↑(BitVec.toNat (BitVec.ofInt (IntKind.bits IntKind.i64) (ix c 1) ||| BitVec.ofInt (IntKind.bits IntKind.i64) a)) : Int)), D.i (ix c 2), D.i (ix c 3)] = strX a c := rfl
def mu33 : List D → Nat
  | [_, v, _, _, _, _, _, _, k] => ((v.L.length : Int) - k.I).toNat
  | [_, v, _, _, _, _, _, _, _, k, _] => ((v.L.length : Int) - k.I).toNat
  | _ => 0
def mu6 : List D → Nat
  | [_, v, _, _, _, _, i, _, _, _, _, _, _] => ((v.L.length : Int) - i.I).toNat
  | [_, v, _, _, _, _, _, i, _, _, _, _, _, _, _] => ((v.L.length : Int) - i.I).toNat
  | [_, v, _, _, _, _, _, _, i, _, _, _, _, _, _, _, _] => ((v.L.length : Int) - i.I).toNat
  | _ => 0
theorem ok27x (n : Nat) : FnOK C (n + 9) 27 (mkF s27 G27x) := (ok27 n).mono fun args v hb h => by
  unfold mkF at h ⊢
  split at h
  · rename_i ds hds
    rw [T.run_map, Option.map_eq_some_iff] at h ⊢
    obtain ⟨r, hr, he⟩ := h
    refine ⟨r, ?_, he⟩
    unfold G27x at hr
    split at hr
    · rename_i n' r' v z hz
      obtain ⟨hp, hr⟩ := need_some hr
      rw [yes_iff] at hp
      unfold G27
      exact go_true hp hr
    · cases hr
  · cases h
theorem all8 : AllOK C 12 sp8 := ⟨ok15 11, ok19 9, ok28 10, ok29 10, ok27x 3, ok31 11, trivial⟩
theorem ok8_6 : LoopSim C 12 8 (loopOf C.P 8 6) (mkL l8_6 G8_6) := by
  refine loop_ofK hC (sp := sp8) (lp := lp8) (sw := sw8) all8 trivial 0 [] (by kernel_rfl) rfl (fun k hk => by cases hk) (by kernel_rfl) mu6 fun ds rr h => ?_
  unfold G8_6 at h
  split at h
  · rename_i j v z hz a e i n r m0 m1 m2 m3
    obtain ⟨hp, h⟩ := need_some h
    rw [yes_iff] at hp
    obtain ⟨hj, hl, hi⟩ := hp
    refine ⟨by rw [fuelC]; show ((v.L.length : Int) - i.I).toNat < _; omega, ?_⟩
    rw [roundTK_head (j := j) (n := 0) hj (by decide), show roundTK C (mkTab sp8 lp8 sw8) 8 (loopOf C.P 8 6) 0 l8_6 [.i 0, v, z, hz, a, e, i, n, r, m0, m1, m2, m3] = _ from t8_6_0 v z hz a e i n r m0 m1 m2 m3]
    simp only [hi, Int.toNat_zero, Nat.reduceAdd, ix_def, str_mk] at h ⊢
    refine rd_if (fun hlt => ?_) fun hge => ?_
    · refine rd_dec (by omega) (rd_need rfl (rd_false rfl (rd_need rfl ?_)))
      have hw : IntKind.i64.wrap (0 + 1) = ((0 + 1 : Nat) : Int) := by rw [wrap_id (by omega) (by omega)]; rfl
      rw [hw]
      rw [run_ite, if_neg (by rw [decide_eq_true_iff]; omega)] at h
      refine rd_again ?_ (show ((v.L.length : Int) - ((0 + 1 : Nat) : Int)).toNat < ((v.L.length : Int) - i.I).toNat by omega)
      refine (go_yes ⟨hl, rfl, rfl, by simp only [I_i]; omega, by simp only [I_i, L_l]; omega⟩ ?_ : (G8_6 [.i 1, .l v.L, .l z.L, .i hz.I, .i a.I, .i e.I, .i 1, .i ((0 + 1 : Nat) : Int), .i n.I, .l r.L, .i m0.I, .i m1.I, .i m2.I, .i m3.I, .l [strX a.I (v.L.getD 0 [])]]).run = some rr)
      rw [← h]
      have e1 : strF a.I v.L 0 v.L.length [] = strF a.I v.L 1 (v.L.length - 1) [strX a.I (v.L.getD 0 [])] := by
        rw [show v.L.length = (v.L.length - 1) + 1 by omega]
        rfl
      rw [e1]
      rfl
    · rw [run_ite, if_pos (by rw [decide_eq_true_iff]; omega)] at h
      exact rd_out h
  · rename_i j v z hz a q1 q2 i n r m0 m1 m2 m3 q3
    split at h
    · rename_i hj
      obtain ⟨hp, h⟩ := need_some h
      rw [yes_iff] at hp
      obtain ⟨hl, hs1, hs2, hi0, hi1⟩ := hp
      refine ⟨by rw [fuelC]; show ((v.L.length : Int) - i.I).toNat < _; omega, ?_⟩
      rw [roundTK_head (j := j) (n := 1) hj (by decide), show roundTK C (mkTab sp8 lp8 sw8) 8 (loopOf C.P 8 6) 0 l8_6 [.i 1, v, z, hz, a, q1, q2, i, n, r, m0, m1, m2, m3, q3] = _ from t8_6_1 v z hz a q1 q2 i n r m0 m1 m2 m3 q3]
      obtain ⟨k, hk⟩ : ∃ k : Nat, i.I = k := ⟨i.I.toNat, by omega⟩
      simp only [hk, hs1, Int.toNat_natCast, Nat.reduceAdd, ix_def, str_mk, List.take_length, bytes60] at h hi0 hi1 ⊢
      refine rd_if (fun hlt => ?_) fun hge => ?_
      · simp only [List.length_cons, List.length_nil, Nat.zero_add]
        refine rd_dec (by omega) (rd_need rfl (rd_false rfl (rd_dec (by omega) ?_)))
        rw [wrap_succ (by omega)]
        refine rd_again ?_ (show ((v.L.length : Int) - ((k + 1 : Nat) : Int)).toNat < ((v.L.length : Int) - i.I).toNat by omega)
        refine (go_yes ⟨hl, by rw [L_l, List.length_append]; rfl, by simp only [L_l, List.length_append, List.length_cons, List.length_nil, I_i]; omega, by simp only [I_i]; omega, by simp only [I_i, L_l]; omega⟩ ?_ : (G8_6 [.i 1, .l v.L, .l z.L, .i hz.I, .i a.I, .i q1.I, .i ((q3.L.length + 1 : Nat) : Int), .i ((k + 1 : Nat) : Int), .i n.I, .l r.L, .i m0.I, .i m1.I, .i m2.I, .i m3.I, .l (q3.L ++ [strX a.I (v.L.getD k [])])]).run = some rr)
        rw [← h]
        have e1 : strF a.I v.L k (v.L.length - k) q3.L = strF a.I v.L (k + 1) (v.L.length - (k + 1)) (q3.L ++ [strX a.I (v.L.getD k [])]) := by
          rw [show v.L.length - k = (v.L.length - (k + 1)) + 1 by omega]
          rfl
        rw [e1]
        rfl
      · rw [show v.L.length - k = 0 by omega] at h
        exact rd_out h
    · rename_i hj
      obtain ⟨hp, h⟩ := need_some h
      rw [yes_iff] at hp
      obtain ⟨hl, hi, hg⟩ := hp
      refine ⟨by rw [fuelC]; show ((v.L.length : Int) - i.I).toNat < _; omega, ?_⟩
      rw [roundTK_head (j := j) (n := 2) hj (by decide), show roundTK C (mkTab sp8 lp8 sw8) 8 (loopOf C.P 8 6) 0 l8_6 [.i 2, v, z, hz, a, q1, q2, i, n, r, m0, m1, m2, m3, q3] = _ from t8_6_2 v z hz a q1 q2 i n r m0 m1 m2 m3 q3]
      simp only [hi, hg, Int.toNat_zero, Int.toNat_natCast, Nat.reduceAdd, ix_def, str_mk] at h ⊢
      refine rd_if (fun hlt => ?_) fun hge => ?_
      · refine rd_dec (by omega) (rd_need rfl (rd_false rfl (rd_need rfl ?_)))
        have hw : IntKind.i64.wrap (0 + 1) = ((0 + 1 : Nat) : Int) := by rw [wrap_id (by omega) (by omega)]; rfl
        rw [hw]
        rw [run_ite, if_neg (by rw [decide_eq_true_iff]; omega)] at h
        refine rd_again ?_ (show ((v.L.length : Int) - ((0 + 1 : Nat) : Int)).toNat < ((v.L.length : Int) - i.I).toNat by omega)
        refine (go_yes ⟨rfl, hl, rfl, rfl, rfl, by simp only [I_i]; omega, by simp only [I_i, L_l]; omega⟩ ?_ : (G8_6 [.i 3, .l v.L, .l z.L, .i hz.I, .i a.I, .i (q3.L.length : Int), .i q2.I, .i 1, .i ((0 + 1 : Nat) : Int), .i n.I, .l r.L, .i m0.I, .i m1.I, .i m2.I, .i m3.I, .l q3.L, .l [strX a.I (v.L.getD 0 [])]]).run = some rr)
        rw [← h]
        have e1 : strF a.I v.L 0 v.L.length [] = strF a.I v.L 1 (v.L.length - 1) [strX a.I (v.L.getD 0 [])] := by
          rw [show v.L.length = (v.L.length - 1) + 1 by omega]
          rfl
        rw [e1]
        rfl
      · rw [run_ite, if_pos (by rw [decide_eq_true_iff]; omega)] at h
        exact rd_out h
    · cases h
  · rename_i j v z hz a gm e sm i n r m0 m1 m2 m3 g s
    obtain ⟨hp, h⟩ := need_some h
    rw [yes_iff] at hp
    obtain ⟨hj, hl, hg, hs1, hs2, hi0, hi1⟩ := hp
    refine ⟨by rw [fuelC]; show ((v.L.length : Int) - i.I).toNat < _; omega, ?_⟩
    rw [roundTK_head (j := j) (n := 3) hj (by decide), show roundTK C (mkTab sp8 lp8 sw8) 8 (loopOf C.P 8 6) 0 l8_6 [.i 3, v, z, hz, a, gm, e, sm, i, n, r, m0, m1, m2, m3, g, s] = _ from t8_6_3 v z hz a gm e sm i n r m0 m1 m2 m3 g s]
    obtain ⟨k, hk⟩ : ∃ k : Nat, i.I = k := ⟨i.I.toNat, by omega⟩
    simp only [hk, hs1, hg, Int.toNat_natCast, Nat.reduceAdd, ix_def, str_mk, List.take_length, bytes60] at h hi0 hi1 ⊢
    refine rd_if (fun hlt => ?_) fun hge => ?_
    · simp only [List.length_cons, List.length_nil, Nat.zero_add]
      refine rd_dec (by omega) (rd_need rfl (rd_false rfl (rd_dec (by omega) ?_)))
      rw [wrap_succ (by omega)]
      refine rd_again ?_ (show ((v.L.length : Int) - ((k + 1 : Nat) : Int)).toNat < ((v.L.length : Int) - i.I).toNat by omega)
      refine (go_yes ⟨rfl, hl, rfl, by rw [L_l, List.length_append]; rfl, by simp only [L_l, List.length_append, List.length_cons, List.length_nil, I_i]; omega, by simp only [I_i]; omega, by simp only [I_i, L_l]; omega⟩ ?_ : (G8_6 [.i 3, .l v.L, .l z.L, .i hz.I, .i a.I, .i (g.L.length : Int), .i e.I, .i ((s.L.length + 1 : Nat) : Int), .i ((k + 1 : Nat) : Int), .i n.I, .l r.L, .i m0.I, .i m1.I, .i m2.I, .i m3.I, .l g.L, .l (s.L ++ [strX a.I (v.L.getD k [])])]).run = some rr)
      rw [← h]
      have e1 : strF a.I v.L k (v.L.length - k) s.L = strF a.I v.L (k + 1) (v.L.length - (k + 1)) (s.L ++ [strX a.I (v.L.getD k [])]) := by
        rw [show v.L.length - k = (v.L.length - (k + 1)) + 1 by omega]
        rfl
      rw [e1]
      rfl
    · rw [show v.L.length - k = 0 by omega] at h
      exact rd_out h
  · cases h
theorem ok8_19 : LoopSim C 12 8 (loopOf C.P 8 19) (mkL l8_19 G8_19) := by
  refine loop_ofK hC (sp := sp8) (lp := lp8) (sw := sw8) all8 trivial 0 [] (by kernel_rfl) rfl (fun k hk => by cases hk) (by kernel_rfl) (fun ds => if (ds.getD 0 default).I = 0 then 0 else ((ds.getD 4 default).I - (ds.getD 8 default).I).toNat) fun ds rr h => ?_
  unfold G8_19 at h
  split at h
  · rename_i j v z hz hm i o k x
    obtain ⟨hp, h⟩ := need_some h
    rw [yes_iff] at hp
    obtain ⟨hj, hk, hm1⟩ := hp
    refine ⟨by rw [fuelC]; simp [hj], ?_⟩
    rw [roundTK_head (j := j) (n := 0) hj (by decide), show roundTK C (mkTab sp8 lp8 sw8) 8 (loopOf C.P 8 19) 0 l8_19 [.i 0, v, z, hz, hm, i, o, k, x] = _ from t8_19_0 v z hz hm i o k x]
    simp only [hk, hm1, Int.toNat_natCast] at h ⊢
    exact rd_neg (by omega) (rd_out h)
  · rename_i j v z hz gm hm i o k g x
    obtain ⟨hp, h⟩ := need_some h
    rw [yes_iff] at hp
    obtain ⟨hj, hg, hm1, hgl, hi, hk0, hk1⟩ := hp
    refine ⟨by rw [fuelC]; simp [hj]; omega, ?_⟩
    rw [roundTK_head (j := j) (n := 1) hj (by decide), show roundTK C (mkTab sp8 lp8 sw8) 8 (loopOf C.P 8 19) 0 l8_19 [.i 1, v, z, hz, gm, hm, i, o, k, g, x] = _ from t8_19_1 v z hz gm hm i o k g x]
    obtain ⟨q, hq⟩ : ∃ q : Nat, k.I = q := ⟨k.I.toNat, by omega⟩
    obtain ⟨p, hp⟩ : ∃ p : Nat, i.I = p := ⟨i.I.toNat, by omega⟩
    simp only [hq, hp, hg, hm1, Int.toNat_natCast, Nat.reduceAdd, ix_def] at h hi hk0 hk1 ⊢
    refine rd_if (fun hlt => ?_) fun hge => ?_
    · have hkl : q < g.L.length := by omega
      rw [any_step hkl] at h
      rw [wrap_succ (by omega)]
      have hmu : (if (1 : Int) = 0 then 0 else ((g.L.length : Int) - ((q + 1 : Nat) : Int)).toNat) < if j.I = 0 then 0 else (gm.I - k.I).toNat := by
        rw [if_neg (by omega), if_neg (by omega)]
        omega
      have e0 : inB g.L x.L p q = (ix (g.L.getD q []) 0 == ix (x.L.getD p []) 0 && (decide (ix (g.L.getD q []) 1 ≤ ix (x.L.getD p []) 1) && decide (ix (x.L.getD p []) 2 ≤ ix (g.L.getD q []) 2))) := rfl
      have go : ∀ c : Bool, (o.B || inB g.L x.L p q) = c → (G8_19 [.i 1, .l v.L, .l z.L, .i hz.I, .i (g.L.length : Int), .i (x.L.length : Int), .i (p : Int), .b c, .i ((q + 1 : Nat) : Int), .l g.L, .l x.L]).run = some rr := fun c e => by
        refine (need_yes ⟨rfl, rfl, rfl, hgl, ⟨by simp only [I_i]; omega, by simp only [I_i, L_l]; omega⟩, by simp only [I_i]; omega, by simp only [I_i, L_l]; omega⟩).trans ?_
        rw [← h, ← Bool.or_assoc, e]
        rfl
      refine rd_ite (fun c1 => rd_again (go _ (by rw [c1]; rfl)) hmu) fun c1 => ?_
      rw [c1, Bool.false_or] at go
      rw [e0] at go
      refine rd_dec (by omega) (rd_dec (by omega) (rd_dec (by omega) (rd_dec (by omega) (rd_ite (fun c2 => ?_) fun c2 => rd_again (go _ (by rw [c2]; rfl)) hmu))))
      rw [c2, Bool.true_and] at go
      refine rd_dec (by omega) (rd_dec (by omega) (rd_dec (by omega) (rd_dec (by omega) (rd_if (fun c3 => ?_) fun c3 => rd_again (go _ (by rw [decide_eq_false c3]; rfl)) hmu))))
      rw [decide_eq_true c3, Bool.true_and] at go
      exact rd_dec (by omega) (rd_dec (by omega) (rd_dec (by omega) (rd_dec (by omega) (rd_again (go _ rfl) hmu))))
    · rw [any_end (by omega), Bool.or_false] at h
      exact rd_out h
  · cases h
theorem ok8_15 : LoopSim C 12 8 (loopOf C.P 8 15) (mkL l8_15 G8_15) := by
  refine loop_ofK hC (sp := sp8) (lp := lp8) (sw := sw8) all8 trivial 0 [19] (by kernel_rfl) (by kernel_rfl) (fun k hk L hL => by simp at hk; subst hk; cases hL; exact ok8_19) (by kernel_rfl)
    (fun ds => if (ds.getD 0 default).I = 1 then ((ds.getD 4 default).I - (ds.getD 5 default).I).toNat else if (ds.getD 0 default).I = 3 then ((ds.getD 5 default).I - (ds.getD 6 default).I).toNat else 0) fun ds rr h => ?_
  unfold G8_15 at h
  split at h
  · rename_i j v z hz i
    obtain ⟨hp, h⟩ := need_some h
    rw [yes_iff] at hp
    obtain ⟨hj, hi⟩ := hp
    refine ⟨by rw [fuelC]; simp [hj], ?_⟩
    rw [roundTK_head (j := j) (n := 0) hj (by decide), show roundTK C (mkTab sp8 lp8 sw8) 8 (loopOf C.P 8 15) 0 l8_15 [.i 0, v, z, hz, i] = _ from t8_15_0 v z hz i]
    simp only [hi]
    exact rd_neg (by omega) (rd_out h)
  · rename_i j v z hz m i g
    split at h
    · rename_i hj
      obtain ⟨hp, h⟩ := need_some h
      rw [yes_iff] at hp
      obtain ⟨hm, hgl, hi0, hi1⟩ := hp
      refine ⟨by rw [fuelC]; simp [hj]; omega, ?_⟩
      rw [roundTK_head (j := j) (n := 1) hj (by decide), show roundTK C (mkTab sp8 lp8 sw8) 8 (loopOf C.P 8 15) 0 l8_15 [.i 1, v, z, hz, m, i, g] = _ from t8_15_1 v z hz m i g]
      obtain ⟨k, hk⟩ : ∃ k : Nat, i.I = k := ⟨i.I.toNat, by omega⟩
      simp only [hk, hm, Int.toNat_natCast] at h hi0 hi1 ⊢
      refine rd_if (fun hlt => ?_) fun hge => rd_out (all_end h (by omega))
      obtain ⟨s1, s2⟩ := all_step h (by omega : k < g.L.length)
      exact rd_yes ⟨by first | trivial | rfl, by first | trivial | rfl, by first | trivial | rfl⟩ (rd_true rfl (rd_out (s1 rfl)))
    · rename_i hj
      obtain ⟨hp, h⟩ := need_some h
      rw [yes_iff] at hp
      obtain ⟨hi, hm⟩ := hp
      refine ⟨by rw [fuelC]; simp [hj], ?_⟩
      rw [roundTK_head (j := j) (n := 2) hj (by decide), show roundTK C (mkTab sp8 lp8 sw8) 8 (loopOf C.P 8 15) 0 l8_15 [.i 2, v, z, hz, m, i, g] = _ from t8_15_2 v z hz m i g]
      simp only [hi, hm, Int.toNat_natCast] at h ⊢
      exact rd_neg (by omega) (rd_out h)
    · cases h
  · rename_i j v z hz gm hm i g x
    obtain ⟨hp, h⟩ := need_some h
    rw [yes_iff] at hp
    obtain ⟨hj, hg, hm1, hgl, hxl, hi0, hi1⟩ := hp
    refine ⟨by rw [fuelC]; simp [hj]; omega, ?_⟩
    rw [roundTK_head (j := j) (n := 3) hj (by decide), show roundTK C (mkTab sp8 lp8 sw8) 8 (loopOf C.P 8 15) 0 l8_15 [.i 3, v, z, hz, gm, hm, i, g, x] = _ from t8_15_3 v z hz gm hm i g x]
    obtain ⟨k, hk⟩ : ∃ k : Nat, i.I = k := ⟨i.I.toNat, by omega⟩
    simp only [hk, hg, hm1, Int.toNat_natCast, Int.toNat_zero, Nat.sub_zero, Bool.false_or] at h hi0 hi1 ⊢
    refine rd_if (fun hlt => ?_) fun hge => rd_out (all_end h (by omega))
    obtain ⟨s1, s2⟩ := all_step h (by omega : k < x.L.length)
    refine rd_yes ⟨by first | trivial | rfl, by first | trivial | rfl, by first | trivial | rfl, hgl, ⟨by omega, by omega⟩, by first | trivial | omega, by omega⟩ (rd_not (fun c => rd_out (s1 c)) fun c => ?_)
    rw [wrap_succ (by omega)]
    refine rd_again ((need_yes ⟨rfl, rfl, rfl, hgl, hxl, by simp only [I_i]; omega, by simp only [I_i, L_l]; omega⟩).trans (s2 c)) ?_
    show (if (3 : Int) = 1 then ((g.L.length : Int) - (x.L.length : Int)).toNat else if (3 : Int) = 3 then ((x.L.length : Int) - ((k + 1 : Nat) : Int)).toNat else 0) < if j.I = 1 then _ else if j.I = 3 then (hm.I - i.I).toNat else 0
    rw [if_neg (by omega), if_pos rfl, if_neg (by omega), if_pos hj]
    omega
  · cases h
theorem able_mk (x z : List D) : (IntKind.wrap IntKind.i64 (↑(BitVec.toNat (BitVec.ofInt (IntKind.bits IntKind.i64) (ix x 1) &&& BitVec.ofInt (IntKind.bits IntKind.i64) (ix z 1))) : Int) == ix z 1) = ableB x z := rfl
theorem ok8_33 : LoopSim C 12 8 (loopOf C.P 8 33) (mkL l8_33 G8_33) := by
  refine loop_ofK hC (sp := sp8) (lp := lp8) (sw := sw8) all8 trivial 0 [] (by kernel_rfl) rfl (fun k hk => by cases hk) (by kernel_rfl) mu33 fun ds rr h => ?_
  unfold G8_33 at h
  split at h
  · rename_i j v z hz i t o p k
    obtain ⟨hp, h⟩ := need_some h
    rw [yes_iff] at hp
    obtain ⟨hj, hf, hi, hk0, hk1⟩ := hp
    have hf1 := hf.1
    refine ⟨by rw [fuelC]; show ((v.L.length : Int) - k.I).toNat < _; omega, ?_⟩
    rw [roundTK_head (j := j) (n := 0) hj (by decide), show roundTK C (mkTab sp8 lp8 sw8) 8 (loopOf C.P 8 33) 0 l8_33 [.i 0, v, z, hz, i, t, o, p, k] = _ from t8_33_0 v z hz i t o p k]
    obtain ⟨q, hq⟩ : ∃ q : Nat, k.I = q := ⟨k.I.toNat, by omega⟩
    obtain ⟨y, hy⟩ : ∃ y : Nat, i.I = y := ⟨i.I.toNat, by omega⟩
    simp only [hq, hy, Int.toNat_natCast, Nat.reduceAdd, ix_def, able_mk] at h hi hk0 hk1 ⊢
    refine rd_if (fun hlt => ?_) fun hge => ?_
    · have hkl : q < v.L.length := by omega
      rw [any_step hkl] at h
      rw [wrap_succ (by omega)]
      have hmu : ((v.L.length : Int) - ((q + 1 : Nat) : Int)).toNat < ((v.L.length : Int) - k.I).toNat := by omega
      have go : ∀ c : Bool, (o.B || thB v.L (z.L.getD y []) t.I q) = c → (G8_33 [.i 0, .l v.L, .l z.L, .i hz.I, .i (y : Int), .i t.I, .b c, .b p.B, .i ((q + 1 : Nat) : Int)]).run = some rr := fun c e => by
        refine (need_yes ⟨rfl, hf, ⟨by simp only [I_i]; omega, by simp only [I_i, L_l]; omega⟩, by simp only [I_i]; omega, by simp only [I_i, L_l]; omega⟩).trans ?_
        rw [← h, ← Bool.or_assoc, e]
        rfl
      refine rd_ite (fun c1 => rd_again (go _ (by rw [c1]; rfl)) hmu) fun c1 => ?_
      rw [c1, Bool.false_or] at go
      unfold thB at go
      refine rd_dec (by omega) (rd_dec (by omega) (rd_ite (fun c2 => ?_) fun c2 => rd_again (go _ (by rw [c2]; rfl)) hmu))
      rw [c2, Bool.true_and] at go
      refine rd_dec (by omega) (rd_if (fun c3 => ?_) fun c3 => rd_again (go _ (by rw [decide_eq_false c3]; rfl)) hmu)
      rw [decide_eq_true c3, Bool.true_and] at go
      refine rd_dec (by omega) (rd_if (fun c4 => ?_) fun c4 => rd_again (go _ (by rw [decide_eq_false c4]; rfl)) hmu)
      rw [decide_eq_true c4, Bool.true_and] at go
      exact rd_dec (by omega) (rd_dec (by omega) (rd_dec (by omega) (rd_again (go _ rfl) hmu)))
    · rw [any_end (by omega), Bool.or_false] at h
      exact rd_out h
  · rename_i j v z hz gm i t o p k g
    obtain ⟨hp, h⟩ := need_some h
    rw [yes_iff] at hp
    obtain ⟨hj, hg, hf, hi, hk0, hk1⟩ := hp
    have hf1 := hf.1
    refine ⟨by rw [fuelC]; show ((v.L.length : Int) - k.I).toNat < _; omega, ?_⟩
    rw [roundTK_head (j := j) (n := 1) hj (by decide), show roundTK C (mkTab sp8 lp8 sw8) 8 (loopOf C.P 8 33) 0 l8_33 [.i 1, v, z, hz, gm, i, t, o, p, k, g] = _ from t8_33_1 v z hz gm i t o p k g]
    obtain ⟨q, hq⟩ : ∃ q : Nat, k.I = q := ⟨k.I.toNat, by omega⟩
    obtain ⟨y, hy⟩ : ∃ y : Nat, i.I = y := ⟨i.I.toNat, by omega⟩
    simp only [hq, hy, hg, Int.toNat_natCast, Nat.reduceAdd, ix_def, able_mk] at h hi hk0 hk1 ⊢
    refine rd_if (fun hlt => ?_) fun hge => ?_
    · have hkl : q < v.L.length := by omega
      rw [any_step hkl] at h
      rw [wrap_succ (by omega)]
      have hmu : ((v.L.length : Int) - ((q + 1 : Nat) : Int)).toNat < ((v.L.length : Int) - k.I).toNat := by omega
      have go : ∀ c : Bool, (o.B || thB v.L (z.L.getD y []) t.I q) = c → (G8_33 [.i 1, .l v.L, .l z.L, .i hz.I, .i (g.L.length : Int), .i (y : Int), .i t.I, .b c, .b p.B, .i ((q + 1 : Nat) : Int), .l g.L]).run = some rr := fun c e => by
        refine (need_yes ⟨rfl, rfl, hf, ⟨by simp only [I_i]; omega, by simp only [I_i, L_l]; omega⟩, by simp only [I_i]; omega, by simp only [I_i, L_l]; omega⟩).trans ?_
        rw [← h, ← Bool.or_assoc, e]
        rfl
      refine rd_ite (fun c1 => rd_again (go _ (by rw [c1]; rfl)) hmu) fun c1 => ?_
      rw [c1, Bool.false_or] at go
      unfold thB at go
      refine rd_dec (by omega) (rd_dec (by omega) (rd_ite (fun c2 => ?_) fun c2 => rd_again (go _ (by rw [c2]; rfl)) hmu))
      rw [c2, Bool.true_and] at go
      refine rd_dec (by omega) (rd_if (fun c3 => ?_) fun c3 => rd_again (go _ (by rw [decide_eq_false c3]; rfl)) hmu)
      rw [decide_eq_true c3, Bool.true_and] at go
      refine rd_dec (by omega) (rd_if (fun c4 => ?_) fun c4 => rd_again (go _ (by rw [decide_eq_false c4]; rfl)) hmu)
      rw [decide_eq_true c4, Bool.true_and] at go
      exact rd_dec (by omega) (rd_dec (by omega) (rd_dec (by omega) (rd_again (go _ rfl) hmu)))
    · rw [any_end (by omega), Bool.or_false] at h
      exact rd_out h
  · cases h
end Go.Proofs.Ytgmefblkmidglaa
namespace Go.Proofs.Ytgmefblkmidglaa
open Go.Lite
set_option maxRecDepth 100000
def mu37 : List D → Nat
  | [_, _, _, _, gm, _, _, _, _, k, _] => (gm.I - k.I).toNat
  | _ => 0
theorem ok8_37 : LoopSim C 12 8 (loopOf C.P 8 37) (mkL l8_37 G8_37) := by
  refine loop_ofK hC (sp := sp8) (lp := lp8) (sw := sw8) all8 trivial 0 [] (by kernel_rfl) rfl (fun k hk => by cases hk) (by kernel_rfl) mu37 fun ds rr h => ?_
  unfold G8_37 at h
  split at h
  · rename_i j v z hz i t o p k
    obtain ⟨hp, h⟩ := need_some h
    rw [yes_iff] at hp
    obtain ⟨hj, hk⟩ := hp
    refine ⟨by rw [fuelC]; show 0 < _; omega, ?_⟩
    rw [roundTK_head (j := j) (n := 0) hj (by decide), show roundTK C (mkTab sp8 lp8 sw8) 8 (loopOf C.P 8 37) 0 l8_37 [.i 0, v, z, hz, i, t, o, p, k] = _ from t8_37_0 v z hz i t o p k]
    simp only [hk]
    exact rd_neg (by omega) (rd_out h)
  · rename_i j v z hz gm i t o p k g
    obtain ⟨hp, h⟩ := need_some h
    rw [yes_iff] at hp
    obtain ⟨hj, hg, hgl, hk0, hk1⟩ := hp
    refine ⟨by rw [fuelC]; show (gm.I - k.I).toNat < _; omega, ?_⟩
    rw [roundTK_head (j := j) (n := 1) hj (by decide), show roundTK C (mkTab sp8 lp8 sw8) 8 (loopOf C.P 8 37) 0 l8_37 [.i 1, v, z, hz, gm, i, t, o, p, k, g] = _ from t8_37_1 v z hz gm i t o p k g]
    obtain ⟨q, hq⟩ : ∃ q : Nat, k.I = q := ⟨k.I.toNat, by omega⟩
    simp only [hq, hg, Int.toNat_natCast, Nat.reduceAdd, ix_def] at h hk0 hk1 ⊢
    refine rd_if (fun hlt => ?_) fun hge => ?_
    · have hkl : q < g.L.length := by omega
      rw [any_step hkl] at h
      rw [wrap_succ (by omega)]
      have hmu : ((g.L.length : Int) - ((q + 1 : Nat) : Int)).toNat < (gm.I - k.I).toNat := by omega
      have go : ∀ c : Bool, (p.B || gpB g.L i.I t.I q) = c → (G8_37 [.i 1, .l v.L, .l z.L, .i hz.I, .i (g.L.length : Int), .i i.I, .i t.I, .b o.B, .b c, .i ((q + 1 : Nat) : Int), .l g.L]).run = some rr := fun c e => by
        refine (need_yes ⟨rfl, rfl, hgl, by simp only [I_i]; omega, by simp only [I_i, L_l]; omega⟩).trans ?_
        rw [← h, ← Bool.or_assoc, e]
        rfl
      have e0 : gpB g.L i.I t.I q = (ix (g.L.getD q []) 0 == i.I && (decide (ix (g.L.getD q []) 1 ≤ t.I) && decide (t.I < ix (g.L.getD q []) 2))) := rfl
      refine rd_ite (fun c1 => rd_again (go _ (by rw [c1]; rfl)) hmu) fun c1 => ?_
      rw [c1, Bool.false_or, e0] at go
      refine rd_dec (by omega) (rd_dec (by omega) (rd_ite (fun c2 => ?_) fun c2 => rd_again (go _ (by rw [c2]; rfl)) hmu))
      rw [c2, Bool.true_and] at go
      refine rd_dec (by omega) (rd_dec (by omega) (rd_if (fun c3 => ?_) fun c3 => rd_again (go _ (by rw [decide_eq_false c3]; rfl)) hmu))
      rw [decide_eq_true c3, Bool.true_and] at go
      exact rd_dec (by omega) (rd_dec (by omega) (rd_again (go _ rfl) hmu))
    · rw [any_end (by omega), Bool.or_false] at h
      exact rd_out h
  · cases h
def mu29 : List D → Nat
  | [_, _, _, hz, _, t] => (hz.I - t.I).toNat
  | [_, _, _, hz, _, _, t, _] => (hz.I - t.I).toNat
  | _ => 0
def mu25 : List D → Nat
  | [_, _, z, _, i] => ((z.L.length : Int) - i.I).toNat
  | [_, _, z, _, _, i, _] => ((z.L.length : Int) - i.I).toNat
  | _ => 0
theorem ok8_29 : LoopSim C 12 8 (loopOf C.P 8 29) (mkL l8_29 G8_29) := by
  refine loop_ofK hC (sp := sp8) (lp := lp8) (sw := sw8) all8 trivial 0 [33, 37] (by kernel_rfl) (by kernel_rfl) (fun k hk L hL => by
    simp at hk
    rcases hk with rfl | rfl
    · cases hL; exact ok8_33
    · cases hL; exact ok8_37) (by kernel_rfl) mu29 fun ds rr h => ?_
  unfold G8_29 at h
  split at h
  · rename_i j v z hz i t
    obtain ⟨hp, h⟩ := need_some h
    rw [yes_iff] at hp
    obtain ⟨hj, hf, hz2, ⟨ht0, ht1⟩, hi⟩ := hp
    refine ⟨by rw [fuelC]; show (hz.I - t.I).toNat < _; omega, ?_⟩
    rw [roundTK_head (j := j) (n := 0) hj (by decide), show roundTK C (mkTab sp8 lp8 sw8) 8 (loopOf C.P 8 29) 0 l8_29 [.i 0, v, z, hz, i, t] = _ from t8_29_0 v z hz i t]
    obtain ⟨k, hk⟩ : ∃ k : Nat, t.I = k := ⟨t.I.toNat, by omega⟩
    simp only [hk, Int.toNat_natCast, Int.toNat_zero, Nat.sub_zero, Bool.false_or] at h ht0 ht1 ⊢
    refine rd_if (fun hlt => ?_) fun hge => rd_out (all_end h (by omega))
    obtain ⟨s1, s2⟩ := all_step h (by omega : k < hz.I.toNat)
    have hmu : (hz.I - ((k + 1 : Nat) : Int)).toNat < (hz.I - t.I).toNat := by omega
    have hf1 := hf.1
    have e0 : (secB [] v.L (z.L.getD i.I.toNat []) i.I k) = (anyB (thB v.L (z.L.getD i.I.toNat []) k) 0 v.L.length != false) := rfl
    rw [wrap_succ (by omega)]
    refine rd_yes ⟨by first | trivial | rfl, hf, hi, by first | trivial | omega, by omega⟩ (rd_yes ⟨by first | trivial | rfl, by first | trivial | rfl⟩ (rd_ite (fun c => rd_out (s1 ?_)) fun c => rd_again ((need_yes ⟨rfl, hf, hz2, by simp only [I_i]; omega, hi⟩).trans (s2 ?_)) hmu))
    · rw [e0, bne, c]; rfl
    · rw [e0, bne, c]; rfl
  · rename_i j v z hz gm i t g
    obtain ⟨hp, h⟩ := need_some h
    rw [yes_iff] at hp
    obtain ⟨hj, hg, hgl, hf, hz2, ⟨ht0, ht1⟩, hi⟩ := hp
    refine ⟨by rw [fuelC]; show (hz.I - t.I).toNat < _; omega, ?_⟩
    rw [roundTK_head (j := j) (n := 1) hj (by decide), show roundTK C (mkTab sp8 lp8 sw8) 8 (loopOf C.P 8 29) 0 l8_29 [.i 1, v, z, hz, gm, i, t, g] = _ from t8_29_1 v z hz gm i t g]
    obtain ⟨k, hk⟩ : ∃ k : Nat, t.I = k := ⟨t.I.toNat, by omega⟩
    simp only [hk, hg, Int.toNat_natCast, Int.toNat_zero, Nat.sub_zero, Bool.false_or] at h ht0 ht1 ⊢
    refine rd_if (fun hlt => ?_) fun hge => rd_out (all_end h (by omega))
    obtain ⟨s1, s2⟩ := all_step h (by omega : k < hz.I.toNat)
    have hmu : (hz.I - ((k + 1 : Nat) : Int)).toNat < (hz.I - t.I).toNat := by omega
    have hf1 := hf.1
    have e0 : (secB g.L v.L (z.L.getD i.I.toNat []) i.I k) = (anyB (thB v.L (z.L.getD i.I.toNat []) k) 0 v.L.length != anyB (gpB g.L i.I k) 0 g.L.length) := rfl
    rw [wrap_succ (by omega)]
    refine rd_yes ⟨by first | trivial | rfl, by first | trivial | rfl, hf, hi, by first | trivial | omega, by omega⟩ (rd_yes ⟨by first | trivial | rfl, by first | trivial | rfl, hgl, by first | trivial | omega, by omega⟩ (rd_ite (fun c => rd_out (s1 ?_)) fun c => rd_again ((need_yes ⟨rfl, rfl, hgl, hf, hz2, by simp only [I_i]; omega, hi⟩).trans (s2 ?_)) hmu))
    · rw [e0, bne, c]; rfl
    · rw [e0, bne, c]; rfl
  · cases h
theorem ok8_25 : LoopSim C 12 8 (loopOf C.P 8 25) (mkL l8_25 G8_25) := by
  refine loop_ofK hC (sp := sp8) (lp := lp8) (sw := sw8) all8 trivial 0 [29] (by kernel_rfl) (by kernel_rfl) (fun k hk L hL => by simp at hk; subst hk; cases hL; exact ok8_29) (by kernel_rfl) mu25 fun ds rr h => ?_
  unfold G8_25 at h
  split at h
  · rename_i j v z hz i
    obtain ⟨hp, h⟩ := need_some h
    rw [yes_iff] at hp
    obtain ⟨hj, hf, hz0, hi0, hi1⟩ := hp
    have hf2 := hf.2
    refine ⟨by rw [fuelC]; show ((z.L.length : Int) - i.I).toNat < _; omega, ?_⟩
    rw [roundTK_head (j := j) (n := 0) hj (by decide), show roundTK C (mkTab sp8 lp8 sw8) 8 (loopOf C.P 8 25) 0 l8_25 [.i 0, v, z, hz, i] = _ from t8_25_0 v z hz i]
    obtain ⟨k, hk⟩ : ∃ k : Nat, i.I = k := ⟨i.I.toNat, by omega⟩
    simp only [hk, Int.toNat_natCast, Int.toNat_zero, Nat.sub_zero, Nat.reduceAdd, ix_def] at h hi0 hi1 ⊢
    refine rd_if (fun hlt => ?_) fun hge => rd_out (all_end h (by omega))
    obtain ⟨s1, s2⟩ := all_step h (by omega : k < z.L.length)
    have hmu : ((z.L.length : Int) - ((k + 1 : Nat) : Int)).toNat < ((z.L.length : Int) - i.I).toNat := by omega
    have e0 : zonQ [] v.L z.L hz.I k = (ix (z.L.getD k []) 2 != 0 || (decide (hz.I > 200) || allFrom (secB [] v.L (z.L.getD k []) k) 0 hz.I.toNat)) := rfl
    have go : zonQ [] v.L z.L hz.I k = true → (G8_25 [.i 0, .l v.L, .l z.L, .i hz.I, .i ((k + 1 : Nat) : Int)]).run = some rr := fun h' => (need_yes ⟨rfl, hf, hz0, by simp only [I_i]; omega, by simp only [I_i, L_l]; omega⟩).trans (s2 h')
    rw [e0] at s1 go
    rw [wrap_succ (by omega)]
    refine rd_dec (by omega) (rd_ite (fun c => rd_again (go (by rw [c]; rfl)) hmu) fun c => ?_)
    rw [c, Bool.false_or] at s1 go
    refine rd_if (fun c2 => rd_again (go (by rw [decide_eq_true c2]; rfl)) hmu) fun c2 => ?_
    rw [decide_eq_false c2, Bool.false_or] at s1 go
    exact rd_yes ⟨by first | trivial | rfl, hf, by omega, ⟨by first | trivial | omega, hz0⟩, by omega, by omega⟩ (rd_ite (fun c3 => rd_again (go c3) hmu) fun c3 => rd_out (s1 c3))
  · rename_i j v z hz gm i g
    obtain ⟨hp, h⟩ := need_some h
    rw [yes_iff] at hp
    obtain ⟨hj, hg, hgl, hf, hz0, hi0, hi1⟩ := hp
    have hf2 := hf.2
    refine ⟨by rw [fuelC]; show ((z.L.length : Int) - i.I).toNat < _; omega, ?_⟩
    rw [roundTK_head (j := j) (n := 1) hj (by decide), show roundTK C (mkTab sp8 lp8 sw8) 8 (loopOf C.P 8 25) 0 l8_25 [.i 1, v, z, hz, gm, i, g] = _ from t8_25_1 v z hz gm i g]
    obtain ⟨k, hk⟩ : ∃ k : Nat, i.I = k := ⟨i.I.toNat, by omega⟩
    simp only [hk, hg, Int.toNat_natCast, Int.toNat_zero, Nat.sub_zero, Nat.reduceAdd, ix_def] at h hi0 hi1 ⊢
    refine rd_if (fun hlt => ?_) fun hge => rd_out (all_end h (by omega))
    obtain ⟨s1, s2⟩ := all_step h (by omega : k < z.L.length)
    have hmu : ((z.L.length : Int) - ((k + 1 : Nat) : Int)).toNat < ((z.L.length : Int) - i.I).toNat := by omega
    have e0 : zonQ g.L v.L z.L hz.I k = (ix (z.L.getD k []) 2 != 0 || (decide (hz.I > 200) || allFrom (secB g.L v.L (z.L.getD k []) k) 0 hz.I.toNat)) := rfl
    have go : zonQ g.L v.L z.L hz.I k = true → (G8_25 [.i 1, .l v.L, .l z.L, .i hz.I, .i (g.L.length : Int), .i ((k + 1 : Nat) : Int), .l g.L]).run = some rr := fun h' => (need_yes ⟨rfl, rfl, hgl, hf, hz0, by simp only [I_i]; omega, by simp only [I_i, L_l]; omega⟩).trans (s2 h')
    rw [e0] at s1 go
    rw [wrap_succ (by omega)]
    refine rd_dec (by omega) (rd_ite (fun c => rd_again (go (by rw [c]; rfl)) hmu) fun c => ?_)
    rw [c, Bool.false_or] at s1 go
    refine rd_if (fun c2 => rd_again (go (by rw [decide_eq_true c2]; rfl)) hmu) fun c2 => ?_
    rw [decide_eq_false c2, Bool.false_or] at s1 go
    exact rd_yes ⟨by first | trivial | rfl, by first | trivial | rfl, hgl, hf, by omega, ⟨by first | trivial | omega, hz0⟩, by omega, by omega⟩ (rd_ite (fun c3 => rd_again (go c3) hmu) fun c3 => rd_out (s1 c3))
  · cases h
end Go.Proofs.Ytgmefblkmidglaa
namespace Go.Proofs.Ytgmefblkmidglaa
open Go.Lite
theorem anyB_iff {p : Nat → Bool} {n : Nat} : anyB p 0 n = true ↔ ∃ k, k < n ∧ p k = true := by
  unfold anyB
  rw [Bool.not_eq_true', allFrom_false]
  constructor
  · rintro ⟨j, -, h1, h2⟩
    exact ⟨j, by omega, by simpa using h2⟩
  · rintro ⟨j, h1, h2⟩
    exact ⟨j, Nat.zero_le _, by omega, by rw [h2]; rfl⟩
section
variable {n h : Int} {r v z : List (List D)}
theorem gaps_of (hG : okG n r v z h) : Gaps (fun i => secsF n r v (z.getD i [])) h z.length (gapsA n r v z h) := by
  have hsame : gapsA n r v z h = refZ n r v z h 0 z.length [] := gaps_same hG z.length 0 [] (by omega)
  rw [hsame]
  have := gaps_zones (n := n) (r := r) (v := v) (z := z) (h := h) hG.2.2.2.2.2.1 z.length 0 [] ⟨fun k hk => by simp at hk, fun k hk => by simp at hk, fun i hi => by omega⟩
  rwa [Nat.zero_add] at this
theorem gaps_len (hG : okG n r v z h) : (gapsA n r v z h).length ≤ 10000000 := by
  have hsame : gapsA n r v z h = refZ n r v z h 0 z.length [] := gaps_same hG z.length 0 [] (by omega)
  obtain ⟨-, -, -, -, h1, h2, h3⟩ := hG
  have hlen := (refZ_len n r v z h z.length 0 []).2
  have hmul : z.length * h.toNat ≤ 100 * 100000 := Nat.mul_le_mul h1 (by omega)
  simp only [List.length_nil, Nat.zero_add] at hlen
  rw [hsame]
  omega
theorem ins_all {v' : List (List D)} (hG : okG n r v z h) (hG' : okG n r v' z h) (hq : ∀ i, i < z.length → ∀ u, 0 ≤ u → u < h → secsF n r v (z.getD i []) u = true → secsF n r v' (z.getD i []) u = true) :
    allFrom (insB (gapsA n r v z h) (gapsA n r v' z h)) 0 (gapsA n r v' z h).length = true := by
  rw [allFrom_iff]
  intro i _ hi
  unfold insB
  rw [anyB_iff]
  obtain ⟨j, j1, j2, j3, j4⟩ := gaps_in (gaps_of hG) (gaps_of hG') hq i (by omega)
  refine ⟨j, j1, ?_⟩
  unfold inB
  rw [j2, beq_self_eq_true, decide_eq_true j3, decide_eq_true j4]
  rfl
theorem zon_all (hG : okG n r v z h) : allFrom (zonQ (gapsA n r v z h) v z h) 0 z.length = true := by
  rw [allFrom_iff]
  intro i _ hi
  have hi : i < z.length := by omega
  have hgap := gaps_of hG
  have hG' := hG
  obtain ⟨hN, hv, hz, -, -, h0, h1⟩ := hG'
  have hzi : zonB n (z.getD i []) = true := zon_of hz hi
  unfold zonQ
  cases hc : (ix (z.getD i []) 2 != 0) with
  | true => rfl
  | false =>
    have hc : ix (z.getD i []) 2 = 0 := by
      have := bne_eq_false_iff_eq.1 hc
      exact this
    by_cases hh : h > 200
    · rw [decide_eq_true hh]; rfl
    · rw [decide_eq_false hh, Bool.false_or, Bool.false_or, allFrom_iff]
      intro t _ ht
      have ht : (t : Int) < h := by omega
      have e1 : anyB (thB v (z.getD i []) t) 0 v.length = secsF n r v (z.getD i []) t := by
        unfold secsF anyC anyB
        have : ∀ j, j < v.length → thB v (z.getD i []) t j = covB n r (v.getD j []) (z.getD i []) t := fun j hj => by
          rw [cov_zero hN (veh_of hv hj) hzi hc (by omega)]
          rfl
        rw [Bool.eq_iff_iff, Bool.not_eq_true', Bool.not_eq_true', allFrom_false, allFrom_false]
        constructor
        · rintro ⟨j, a1, a2, a3⟩
          exact ⟨j, a1, a2, by rw [← this j (by omega)]; exact a3⟩
        · rintro ⟨j, a1, a2, a3⟩
          exact ⟨j, a1, a2, by rw [this j (by omega)]; exact a3⟩
      have e2 : anyB (gpB (gapsA n r v z h) i t) 0 (gapsA n r v z h).length = !secsF n r v (z.getD i []) t := by
        have hm := hgap.mem i hi t (by omega) ht
        rw [Bool.eq_iff_iff, anyB_iff, Bool.not_eq_true', ← hm]
        constructor
        · rintro ⟨k, k1, k2⟩
          unfold gpB at k2
          rw [Bool.and_eq_true, Bool.and_eq_true, beq_iff_eq, decide_eq_true_iff, decide_eq_true_iff] at k2
          exact ⟨k, k1, k2⟩
        · rintro ⟨k, k1, k2⟩
          refine ⟨k, k1, ?_⟩
          unfold gpB
          rw [Bool.and_eq_true, Bool.and_eq_true, beq_iff_eq, decide_eq_true_iff, decide_eq_true_iff]
          exact k2
      unfold secB
      rw [e1, e2]
      cases secsF n r v (z.getD i []) t <;> rfl
end
end Go.Proofs.Ytgmefblkmidglaa
