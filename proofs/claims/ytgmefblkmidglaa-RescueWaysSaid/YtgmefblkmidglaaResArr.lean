/-
  Searches on a network end, and the document's hops come to the same times.
-/
import Derived.Test.YtgmefblkmidglaaResEnds
import Derived.Test.YtgmefblkmidglaaResHop
namespace Go.Proofs.Ytgmefblkmidglaa
open Go.Lite
/-- The roads of a network. -/
def edR (r : List (List D)) : Ed := ⟨r.length, fun j => ix (r.getD j []) 0, fun j => ix (r.getD j []) 1, fun j t => entW (r.getD j []) t + ix (r.getD j []) 2⟩
theorem edR_ok {n : Int} {r : List (List D)} (h : netB n r = true) : (edR r).OK n.toNat 100000 := by
  obtain ⟨h1, h2, h3⟩ := net_parts h
  refine ⟨fun j hj => ?_, fun j hj => ?_, fun j hj t => ?_, fun j hj t t' ht => ?_, fun j hj t => ?_⟩
  · have := (road_parts (h3 j hj)).1
    show 0 ≤ ix (r.getD j []) 0 ∧ ix (r.getD j []) 0 < (n.toNat : Int)
    omega
  · have := (road_parts (h3 j hj)).2.1
    show 0 ≤ ix (r.getD j []) 1 ∧ ix (r.getD j []) 1 < (n.toNat : Int)
    omega
  · have := (road_parts (h3 j hj)).2.2.1
    have := (entW_parts (h3 j hj)).1 t
    show t < entW (r.getD j []) t + ix (r.getD j []) 2
    omega
  · have := (entW_parts (h3 j hj)).2.2 t t' ht
    show entW (r.getD j []) t + ix (r.getD j []) 2 ≤ entW (r.getD j []) t' + ix (r.getD j []) 2
    omega
  · have := (road_parts (h3 j hj)).2.2.1
    have := (entW_parts (h3 j hj)).2.1 t
    show entW (r.getD j []) t + ix (r.getD j []) 2 ≤ max t 100000 + 10000
    omega
theorem next_of {r : List (List D)} {v t : Int} : ∀ (k i j : Nat), i ≤ j → j < i + k → ix (r.getD j []) 0 = v → ∃ e ∈ nextF r v t i k, ix e 0 = ix (r.getD j []) 1 ∧ ix e 1 = entW (r.getD j []) t + ix (r.getD j []) 2
  | 0, i, j, h1, h2, _ => by omega
  | k + 1, i, j, h1, h2, hv => by
    simp only [nextF]
    by_cases e : j = i
    · subst e
      rw [if_pos hv]
      exact ⟨_, List.mem_cons_self, rfl, rfl⟩
    · obtain ⟨x, hx, h3⟩ := next_of k (i + 1) j (by omega) (by omega) hv
      refine ⟨x, ?_, h3⟩
      split
      · exact List.mem_cons_of_mem _ hx
      · exact hx
def nxR (r : List (List D)) : Int → Int → List (List D) := fun v t => nextF r v t 0 r.length
theorem nxR_ok (r : List (List D)) : Yields (edR r) (nxR r) := fun v t => by
  refine ⟨fun e he => ?_, fun j hj hv => next_of _ _ j (Nat.zero_le _) (by show j < 0 + r.length; have : j < r.length := hj; omega) hv⟩
  obtain ⟨j, -, h1, h2, h3, h4⟩ := next_mem _ _ he
  exact ⟨j, by show j < r.length; omega, h3, h2, h4⟩
theorem ends_G {n : Nat} {r : List (List D)} : ∀ (f : Nat) (s : Sr), endsG (needS n r) (stepG (nxR r)) f s → endsS n r f s
  | 0, _, h => h
  | f + 1, _, h => ⟨h.1, h.2.1, ends_G f _ h.2.2⟩
theorem run_G {r : List (List D)} : ∀ (f : Nat) (s : Sr), runG (stepG (nxR r)) f s = runSr r f s
  | 0, _ => rfl
  | f + 1, _ => run_G f _
theorem inv_start {E : Ed} {n : Int} {v t : Int} (hv : 0 ≤ v ∧ v < n) (ht : t < INF) : InvS E n.toNat 100000 v t (startS n v t) := by
  have hrg : ∀ u, rg (startS n v t).o u = if u = v.toNat then t else rg (List.replicate n.toNat [.i 9223372036854775807]) u := fun u => rg_rs (by simp; omega) _ _
  have hrn : ∀ u, u < n.toNat → rg (startS n v t).o u = if u = v.toNat then t else INF := fun u hu => by rw [hrg, rg_rep hu]
  have hin : ∀ p, inQ (startS n v t) p → p = (v, t) := fun p ⟨i, h1, h2⟩ => by
    have h1 : i < 1 := h1
    obtain rfl : i = 0 := by omega
    exact h2.symm
  refine ⟨by simp [startS, len_rs], Nat.le_refl 1, by rw [hrg, if_pos rfl]; exact Int.le_refl _, fun u hu => ?_, fun p hp => ?_, fun u hu hf => ?_, fun u hu hf => ?_, fun u hu hf => ?_⟩
  · rw [hrn u hu]; split <;> omega
  · rw [hin p hp]
    refine ⟨by simp only; omega, ?_, by simp only; omega⟩
    simp only
    rw [hrg, if_pos rfl]
    exact Int.le_refl _
  · rw [hrn u hu] at hf ⊢
    split at hf
    · rename_i e
      rw [if_pos e, show (u : Int) = v by omega]
      exact .here
    · omega
  · rw [hrn u hu] at hf ⊢
    split at hf
    · rename_i e
      rw [if_pos e]
      refine .inl ⟨0, Nat.zero_lt_one, ?_⟩
      show (v, t) = _
      rw [show (u : Int) = v by omega]
    · omega
  · rw [hrn u hu] at hf ⊢
    split at hf
    · rename_i e
      rw [if_pos e]
      omega
    · omega
theorem pot_start {n : Int} {v t B : Int} (hv : 0 ≤ v ∧ v < n) (ht : t < INF) (hB : t ≤ B) : potN n.toNat B t (startS n v t) ≤ 1 + 2 * ((B + 1 - t).toNat * n.toNat) := by
  unfold potN
  have := sumN_le (n := n.toNat) (g := fun u => capN B t (rg (startS n v t).o u)) (g' := fun _ => (B + 1 - t).toNat) fun u hu => by
    have hrg : rg (startS n v t).o u = if u = v.toNat then t else rg (List.replicate n.toNat [.i 9223372036854775807]) u := rg_rs (by simp; omega) _ _
    rw [hrg, rg_rep hu]
    unfold capN
    by_cases e : u = v.toNat
    · rw [if_pos e, if_pos ht]; omega
    · rw [if_neg e, if_neg (show ¬ (9223372036854775807 : Int) < 9223372036854775807 by omega)]
      exact Nat.le_refl _
  rw [sumN_const] at this
  have h1 : (startS n v t).k = 1 := rfl
  omega
/-- A search on a network ends, with the least times. -/
theorem search_ends {n : Int} {r : List (List D)} {v t : Int} (hN : netB n r = true) (hv : 0 ≤ v ∧ v < n) (ht : 0 ≤ t ∧ t ≤ 1099511627776) (hs : t ≤ 100000 := by omega) :
    haltS n.toNat r (startS n v t) ∧ Least (edR r) n.toNat v t (rg (resS n.toNat r (startS n v t))) := by
  obtain ⟨h1, h2, h3⟩ := net_parts hN
  have hE := edR_ok hN
  have hI : INF = 9223372036854775807 := rfl
  have hn : (n.toNat : Int) = n := by omega
  have hB : max t 100000 + 10000 * ((n.toNat : Int) + 1) < INF := by omega
  have hp := pot_start (n := n) (B := max t 100000 + 10000 * ((n.toNat : Int) + 1)) hv (by omega : t < INF) (by omega)
  have hm : (max t 100000 + 10000 * ((n.toNat : Int) + 1) + 1 - t).toNat * n.toNat ≤ 2200000 * 200 := Nat.mul_le_mul (by omega) (by omega)
  obtain ⟨f, f1, f2, f3⟩ := inv_ends (n := n.toNat) hE (nxR_ok r) hB (by omega) (need := needS n.toNat r) (Q := 1000000000) (fun s I hk hQ => by
    have hkq : s.k ≤ 1000000000 := by unfold potN at hQ; omega
    obtain ⟨⟨v1, v2⟩, v3, v4⟩ := I.q _ ((pop_in hk I.kq (takeV s, takeT s)).2 (.inl rfl))
    simp only at v1 v2 v3 v4
    have hfV : rg s.o (takeV s).toNat < INF := by omega
    have hlo := walk_lo hE (I.walk (takeV s).toNat (by omega) hfV)
    refine ⟨I.kq, by omega, by rw [I.len]; exact Nat.le_refl _, ⟨v1, v2⟩, ⟨by omega, by omega⟩, net_okR hN, by omega, fun i hi => ?_⟩
    have := (road_parts (h3 i hi)).2.1
    omega) 1000000000 (startS n v t) (inv_start hv (by omega)) (by omega) (Nat.le_refl _)
  have he := ends_G f _ f2
  refine ⟨⟨f, by omega, he⟩, ?_⟩
  rw [resS_eq he, ← run_G]
  exact f3

/-! ### Hops come to the least times -/
def cv (z : Int) : Int := if z < 0 then INF else z
theorem hop1_spec {n K : Int} {a x : List (List D)} {c : List D} (hc : roadB n c = true) (hK : 0 ≤ K ∧ K ≤ 1000) (ha : okAt n K a) (hx : okAt n (K + 1) x) :
    (∀ u, cv (rg (hop1 c a x) u) ≤ cv (rg x u)) ∧ (¬ rg a (ix c 0).toNat < 0 → cv (rg (hop1 c a x) (ix c 1).toNat) ≤ entW c (rg a (ix c 0).toNat) + ix c 2) ∧
      ∀ u, rg (hop1 c a x) u = rg x u ∨ (¬ rg a (ix c 0).toNat < 0 ∧ (ix c 1).toNat = u ∧ rg (hop1 c a x) u = entW c (rg a (ix c 0).toNat) + ix c 2) := by
  obtain ⟨h1, h2, h3, -, -⟩ := road_parts hc
  obtain ⟨e1, e2, -⟩ := entW_parts hc
  have h5 := ha.2 (ix c 0).toNat
  have h6 := e1 (rg a (ix c 0).toNat)
  have h7 := e2 (rg a (ix c 0).toNat)
  have hxl := hx.1
  have hI : INF = 9223372036854775807 := rfl
  unfold hop1
  by_cases c1 : rg a (ix c 0).toNat < 0
  · rw [if_pos c1]
    exact ⟨fun u => Int.le_refl _, fun h => absurd c1 h, fun u => .inl rfl⟩
  · rw [if_neg c1]
    by_cases c2 : rg x (ix c 1).toNat < 0 ∨ entW c (rg a (ix c 0).toNat) + ix c 2 < rg x (ix c 1).toNat
    · rw [if_pos c2]
      have hrs := fun u => rg_rs (R := x) (j := (ix c 1).toNat) (by omega) (entW c (rg a (ix c 0).toNat) + ix c 2) u
      refine ⟨fun u => ?_, fun _ => ?_, fun u => ?_⟩
      · rw [hrs]
        by_cases e : u = (ix c 1).toNat
        · rw [if_pos e, e]
          unfold cv
          split <;> split <;> omega
        · rw [if_neg e]; exact Int.le_refl _
      · rw [hrs, if_pos rfl]
        unfold cv
        rw [if_neg (by omega)]
        exact Int.le_refl _
      · rw [hrs]
        by_cases e : u = (ix c 1).toNat
        · rw [if_pos e]
          exact .inr ⟨c1, e.symm, rfl⟩
        · rw [if_neg e]; exact .inl rfl
    · rw [if_neg c2]
      refine ⟨fun u => Int.le_refl _, fun _ => ?_, fun u => .inl rfl⟩
      unfold cv
      split <;> omega
theorem hops_spec {n K : Int} {r a : List (List D)} (hN : netB n r = true) (hK : 0 ≤ K ∧ K ≤ 1000) (ha : okAt n K a) : ∀ (m i : Nat) (x : List (List D)), i + m ≤ r.length → okAt n (K + 1) x →
    (∀ u, cv (rg (hopF r a i m x) u) ≤ cv (rg x u)) ∧ (∀ j, i ≤ j → j < i + m → ¬ rg a ((edR r).fr j).toNat < 0 → cv (rg (hopF r a i m x) ((edR r).to j).toNat) ≤ (edR r).fn j (rg a ((edR r).fr j).toNat)) ∧
      ∀ u, rg (hopF r a i m x) u = rg x u ∨ ∃ j, j < r.length ∧ ¬ rg a ((edR r).fr j).toNat < 0 ∧ ((edR r).to j).toNat = u ∧ rg (hopF r a i m x) u = (edR r).fn j (rg a ((edR r).fr j).toNat)
  | 0, i, x, _, _ => ⟨fun u => Int.le_refl _, fun j h1 h2 => by omega, fun u => .inl rfl⟩
  | m + 1, i, x, hm, hx => by
    have hR := (net_parts hN).2.2 i (by omega)
    obtain ⟨a1, a2, a3⟩ := hop1_spec hR hK ha hx
    obtain ⟨b1, b2, b3⟩ := hops_spec hN hK ha m (i + 1) (hop1 (r.getD i []) a x) (by omega) (hop_ok hR hK.1 ha hx)
    simp only [hopF]
    refine ⟨fun u => Int.le_trans (b1 u) (a1 u), fun j h1 h2 h3 => ?_, fun u => ?_⟩
    · by_cases e : j = i
      · subst e
        exact Int.le_trans (b1 _) (a2 h3)
      · exact b2 j (by omega) (by omega) h3
    · rcases b3 u with h | h
      · rw [h]
        rcases a3 u with h' | ⟨h4, h5, h6⟩
        · exact .inl h'
        · exact .inr ⟨i, by omega, h4, h5, h6⟩
      · exact .inr h
theorem walk_inv {E : Ed} {v0 t0 v t : Int} (h : Walk E v0 t0 v t) : (v = v0 ∧ t = t0) ∨ ∃ j t', j < E.m ∧ v = E.to j ∧ t = E.fn j t' ∧ Walk E v0 t0 (E.fr j) t' := by
  cases h with
  | here => exact .inl ⟨rfl, rfl⟩
  | step h hj => exact .inr ⟨_, _, hj, rfl, rfl, h⟩
structure Sound (r : List (List D)) (n : Int) (v0 t0 : Int) (a : List (List D)) : Prop where
  src : cv (rg a v0.toNat) ≤ t0
  walk : ∀ u, u < n.toNat → ¬ rg a u < 0 → Walk (edR r) v0 t0 u (rg a u)
open Classical in
noncomputable def lateN (d : Nat → Int) (n : Nat) (a : List (List D)) : Nat := sumN (fun u => if cv (rg a u) = d u then 0 else 1) n
section
variable {n K v0 t0 : Int} {r a : List (List D)} {d : Nat → Int}
theorem sound_ge (hL : Least (edR r) n.toNat v0 t0 d) (hS : Sound r n v0 t0 a) {u : Nat} (hu : u < n.toNat) : d u ≤ cv (rg a u) := by
  unfold cv
  split
  · exact hL.1 u hu
  · rename_i h
    have := hL.2.2 _ _ (hS.walk u hu h)
    rwa [Int.toNat_natCast] at this
theorem sound_hop (hN : netB n r = true) (hK : 0 ≤ K ∧ K ≤ 1000) (ha : okAt n K a) (hS : Sound r n v0 t0 a) : Sound r n v0 t0 (hopF r a 0 r.length a) := by
  obtain ⟨b1, b2, b3⟩ := hops_spec hN hK ha r.length 0 a (by omega) (at_mono ha (by omega))
  refine ⟨Int.le_trans (b1 _) hS.src, fun u hu h => ?_⟩
  have hE := edR_ok hN
  rcases b3 u with e | ⟨j, hj, e1, e2, e3⟩
  · rw [e] at h ⊢
    exact hS.walk u hu h
  · rw [e3]
    have h1 := hE.to j hj
    have h2 := hE.fr j hj
    have hw := hS.walk _ (by omega) e1
    rw [show ((((edR r).fr j).toNat : Nat) : Int) = (edR r).fr j by omega] at hw
    rw [show (u : Int) = (edR r).to j by omega]
    exact .step hw hj
theorem late_hop (hN : netB n r = true) (_hv : 0 ≤ v0 ∧ v0 < n) (hK : 0 ≤ K ∧ K ≤ 1000) (ha : okAt n K a) (hL : Least (edR r) n.toNat v0 t0 d) (hS : Sound r n v0 t0 a) (h0 : lateN d n.toNat a ≠ 0) :
    lateN d n.toNat (hopF r a 0 r.length a) < lateN d n.toNat a := by
  have hE := edR_ok hN
  obtain ⟨b1, b2, b3⟩ := hops_spec hN hK ha r.length 0 a (by omega) (at_mono ha (by omega))
  have hS' := sound_hop hN hK ha hS
  have stay : ∀ u, u < n.toNat → cv (rg a u) = d u → cv (rg (hopF r a 0 r.length a) u) = d u := fun u hu h => by
    have := sound_ge hL hS' hu
    have := b1 u
    omega
  have hex : ∃ u, u < n.toNat ∧ cv (rg a u) ≠ d u := by
    refine Classical.byContradiction fun hn => h0 ?_
    unfold lateN
    have : sumN (fun u => if cv (rg a u) = d u then 0 else 1) n.toNat ≤ sumN (fun _ => 0) n.toNat := sumN_le fun u hu => by
      rw [if_pos (Classical.byContradiction fun h => hn ⟨u, hu, h⟩)]
      exact Nat.le_refl _
    rw [sumN_const] at this
    omega
  have hlow : ∀ u, u < n.toNat → d u < INF → t0 ≤ d u := fun u hu h => walk_lo hE (hL.2.1 u hu h)
  have hlt : ∀ u, u < n.toNat → cv (rg a u) ≠ d u → d u < INF := fun u hu h => by
    have h1 := sound_ge hL hS hu
    have h2 : cv (rg a u) ≤ INF := by
      unfold cv
      split
      · exact Int.le_refl _
      · have hI : INF = 9223372036854775807 := rfl
        have := (ha.2 u).2; omega
    omega
  obtain ⟨m, ⟨u, hu, h1, h2⟩, hmin⟩ := least_of (P := fun m => ∃ u, u < n.toNat ∧ cv (rg a u) ≠ d u ∧ (d u - t0).toNat = m) (by obtain ⟨u, hu, h⟩ := hex; exact ⟨_, u, hu, h, rfl⟩)
  have hdu := hlt u hu h1
  have hfin : cv (rg (hopF r a 0 r.length a) u) = d u := by
    rcases walk_inv (hL.2.1 u hu hdu) with ⟨e1, e2⟩ | ⟨j, t', hj, e1, e2, hw⟩
    · exfalso
      have := hS.src
      rw [← e1, Int.toNat_natCast] at this
      have := sound_ge hL hS hu
      omega
    · have g1 := hE.up j hj t'
      have g2 := hL.2.2 _ _ hw
      have g3 := hE.fr j hj
      have g4 := hE.to j hj
      have g5 : cv (rg a ((edR r).fr j).toNat) = d ((edR r).fr j).toNat := Classical.byContradiction fun hc => by
        have k1 := hlt _ (by omega) hc
        have k2 := hlow _ (by omega) k1
        exact hmin _ (by have := hlow u hu hdu; omega) ⟨_, by omega, hc, rfl⟩
      have g6 : ¬ rg a ((edR r).fr j).toNat < 0 := fun hc => by
        unfold cv at g5
        rw [if_pos hc] at g5
        omega
      have g7 := b2 j (Nat.zero_le _) (by show j < 0 + r.length; have : j < r.length := hj; omega) g6
      have g8 : rg a ((edR r).fr j).toNat ≤ t' := by
        unfold cv at g5
        rw [if_neg g6] at g5
        omega
      have g9 := hE.mono j hj _ _ g8
      rw [← e1, Int.toNat_natCast] at g7
      have := sound_ge hL hS' hu
      omega
  refine sumN_lt (fun w hw => ?_) ⟨u, hu, ?_⟩
  · split
    · exact Nat.zero_le _
    · rename_i h
      rw [if_neg fun h' => h (stay w hw h')]
      exact Nat.le_refl _
  · rw [if_pos hfin, if_neg h1]
    exact Nat.zero_lt_one
theorem reach_least (hN : netB n r = true) (hv : 0 ≤ v0 ∧ v0 < n) (hL : Least (edR r) n.toNat v0 t0 d) : ∀ (k : Nat) (a : List (List D)) (K : Int), 0 ≤ K → K + k ≤ 1000 → okAt n K a → Sound r n v0 t0 a → lateN d n.toNat a ≤ k →
    okAt n 1000 (reachF r k a) ∧ ∀ u, u < n.toNat → cv (rg (reachF r k a) u) = d u
  | 0, a, K, h0, h1, ha, hS, hl => by
    refine ⟨at_mono ha (by omega), fun u hu => Classical.byContradiction fun hc => ?_⟩
    have hc : ¬ cv (rg a u) = d u := hc
    have : sumN (fun _ => 0) n.toNat < lateN d n.toNat a := sumN_lt (fun w hw => Nat.zero_le _) ⟨u, hu, by rw [if_neg hc]; exact Nat.zero_lt_one⟩
    rw [sumN_const] at this
    omega
  | k + 1, a, K, h0, h1, ha, hS, hl => by
    refine reach_least hN hv hL k (hopF r a 0 r.length a) (K + 1) (by omega) (by omega) (hops_ok hN h0 ha r.length 0 a (by omega) (at_mono ha (by omega))) (sound_hop hN ⟨h0, by omega⟩ ha hS) ?_
    by_cases hz : lateN d n.toNat a = 0
    · have hS' := sound_hop hN ⟨h0, by omega⟩ ha hS
      obtain ⟨b1, -, -⟩ := hops_spec hN ⟨h0, by omega⟩ ha r.length 0 a (by omega) (at_mono ha (by omega))
      refine Nat.le_trans (sumN_le (g' := fun u => if cv (rg a u) = d u then 0 else 1) fun w hw => ?_) (by unfold lateN at hz; omega)
      split
      · exact Nat.zero_le _
      · rename_i h
        rw [if_neg fun h' => h (by have := sound_ge hL hS' hw; have := b1 w; omega)]
        exact Nat.le_refl _
    · have := late_hop hN hv ⟨h0, by omega⟩ ha hL hS hz
      omega
end
theorem none_rg : ∀ (k i : Nat) (l : List (List D)), i + k ≤ l.length → ∀ u, rg (noneF i k l) u = if i ≤ u ∧ u < i + k ∧ rg l u = 9223372036854775807 then -1 else rg l u
  | 0, i, l, _, u => by simp only [noneF]; rw [if_neg (by omega)]
  | k + 1, i, l, h, u => by
    simp only [noneF]
    rw [none_rg k (i + 1) _ (by split; · rw [len_rs]; omega
                                · omega) u]
    by_cases c : rg l i = 9223372036854775807
    · simp only [if_pos c]
      rw [rg_rs (by omega)]
      by_cases e : u = i
      · subst e
        rw [if_pos rfl, if_neg (by omega), if_pos ⟨Nat.le_refl _, by omega, c⟩]
      · rw [if_neg e]
        by_cases c2 : i + 1 ≤ u ∧ u < i + 1 + k ∧ rg l u = 9223372036854775807
        · rw [if_pos c2, if_pos (by omega)]
        · rw [if_neg c2, if_neg (by omega)]
    · simp only [if_neg c]
      by_cases e : u = i
      · subst e
        rw [if_neg (by omega), if_neg (by omega)]
      · by_cases c2 : i + 1 ≤ u ∧ u < i + 1 + k ∧ rg l u = 9223372036854775807
        · rw [if_pos c2, if_pos (by omega)]
        · rw [if_neg c2, if_neg (by omega)]
theorem begin_sound {r : List (List D)} {n v t : Int} (hv : 0 ≤ v ∧ v < n) (ht : 0 ≤ t) : Sound r n v t (beginF n v t) := by
  have hrg : ∀ u, rg (beginF n v t) u = if u = v.toNat then t else rg (List.replicate n.toNat [.i (-1)]) u := fun u => rg_rs (by simp; omega) _ _
  refine ⟨?_, fun u hu h => ?_⟩
  · rw [hrg, if_pos rfl]
    unfold cv
    rw [if_neg (by omega)]
    exact Int.le_refl _
  · rw [hrg] at h ⊢
    split at h
    · rename_i e
      rw [if_pos e, show (u : Int) = v by omega]
      exact .here
    · rw [rg_rep hu] at h
      omega
/-- The program's arrivals are the document's. -/
theorem arr_same {n : Int} {r : List (List D)} {v t : Int} (hN : netB n r = true) (hv : 0 ≤ v ∧ v < n) (ht : 0 ≤ t ∧ t ≤ 100000) :
    (arrF n r v t).length = n.toNat ∧ (reachF r n.toNat (beginF n v t)).length = n.toNat ∧ ∀ u, u < n.toNat → rg (arrF n r v t) u = rg (reachF r n.toNat (beginF n v t)) u := by
  obtain ⟨h1, -, -⟩ := net_parts hN
  obtain ⟨-, hL⟩ := search_ends hN hv (by omega : 0 ≤ t ∧ t ≤ 1099511627776) ht.2
  have hlen : (resS n.toNat r (startS n v t)).length = n.toNat := by rw [res_len, len_start]
  obtain ⟨k1, k2⟩ := reach_least hN hv hL n.toNat (beginF n v t) 0 (Int.le_refl _) (by omega) (begin_ok (by omega) hv (by omega)) (begin_sound hv ht.1) (by
    unfold lateN
    refine Nat.le_trans (sumN_le (g' := fun _ => 1) fun u hu => by split <;> omega) ?_
    rw [sumN_const]
    omega)
  refine ⟨by unfold arrF; rw [none_len, hlen], by have := k1.1; omega, fun u hu => ?_⟩
  unfold arrF
  rw [none_rg _ _ _ (by omega)]
  have k4 := k2 u hu
  obtain ⟨k3, k5⟩ := k1.2 u
  rw [← k4]
  generalize rg (reachF r n.toNat (beginF n v t)) u = z at *
  have hlo : rg (resS n.toNat r (startS n v t)) u < INF → t ≤ rg (resS n.toNat r (startS n v t)) u := fun h => walk_lo (edR_ok hN) (hL.2.1 u hu h)
  rw [← k4] at hlo
  unfold cv at hlo ⊢
  by_cases hz : z < 0
  · rw [if_pos hz, if_pos ⟨Nat.zero_le _, by omega, rfl⟩]
    omega
  · rw [if_neg hz]
    by_cases hi : z = 9223372036854775807
    · omega
    · rw [if_neg (by omega)]
end Go.Proofs.Ytgmefblkmidglaa
