/-
  Networks as defined: what their parts are, when a road can be entered, and hops.
-/
import Derived.Test.YtgmefblkmidglaaResSpecC
namespace Go.Proofs.Ytgmefblkmidglaa
open Go.Lite
theorem all_at {p : Nat → Bool} : ∀ (k i : Nat), allFrom p i k = true ↔ ∀ j, i ≤ j → j < i + k → p j = true
  | 0, i => ⟨fun _ j h1 h2 => by omega, fun _ => rfl⟩
  | k + 1, i => by
    simp only [allFrom, Bool.and_eq_true, all_at k (i + 1)]
    refine ⟨fun ⟨h1, h2⟩ j h3 h4 => ?_, fun h => ⟨h i (Nat.le_refl _) (by omega), fun j h1 h2 => h j (by omega) (by omega)⟩⟩
    by_cases e : j = i
    · subst e; exact h1
    · exact h2 j (by omega) (by omega)
theorem net_parts {n : Int} {r : List (List D)} (h : netB n r = true) : (1 ≤ n ∧ n ≤ 200) ∧ r.length ≤ 1000 ∧ ∀ i, i < r.length → roadB n (r.getD i []) = true := by
  unfold netB at h
  rw [Bool.and_eq_true, decide_eq_true_iff, all_at] at h
  exact ⟨h.1.1, h.1.2, fun i hi => h.2 i (Nat.zero_le _) (by omega)⟩
theorem road_parts {n : Int} {c : List D} (h : roadB n c = true) : (0 ≤ ix c 0 ∧ ix c 0 < n) ∧ (0 ≤ ix c 1 ∧ ix c 1 < n) ∧ (1 ≤ ix c 2 ∧ ix c 2 ≤ 10000) ∧ (lx c 3).length ≤ 20 ∧ ∀ i, i < (lx c 3).length → clB (lx c 3) i = true := by
  unfold roadB roadH at h
  rw [Bool.and_eq_true, decide_eq_true_iff, all_at] at h
  exact ⟨h.1.1, h.1.2.1, h.1.2.2.2.1, h.1.2.2.2.2, fun i hi => h.2 i (Nat.zero_le _) (by omega)⟩
theorem cl_at {l : List (List D)} (h : ∀ i, i < l.length → clB l i = true) (i : Nat) : (0 ≤ ix (l.getD i []) 0 ∧ ix (l.getD i []) 0 ≤ 100000) ∧ 0 ≤ ix (l.getD i []) 1 ∧ ix (l.getD i []) 1 ≤ 100000 := by
  by_cases hi : i < l.length
  · have := h i hi
    unfold clB at this
    rw [decide_eq_true_iff] at this
    omega
  · rw [List.getD_eq_getElem?_getD, List.getElem?_eq_none (by omega)]
    have e : ∀ k, ix (Option.getD (none : Option (List D)) []) k = 0 := fun k => rfl
    rw [e, e]
    omega
theorem road_okC {n : Int} {c : List D} (h : roadB n c = true) : okT (ix c 2) ∧ okC (lx c 3) := by
  obtain ⟨-, -, h1, h2, h3⟩ := road_parts h
  refine ⟨by unfold okT; omega, ?_, fun j => ?_⟩
  · have := (show big = 4611686018427387904 from rfl)
    omega
  · have := cl_at h3 j
    omega
theorem net_okR {n : Int} {r : List (List D)} (h : netB n r = true) : okR r := by
  obtain ⟨-, h1, h2⟩ := net_parts h
  exact ⟨by omega, fun i hi => road_okC (h2 i hi)⟩

/-! ### When a road can be entered -/
theorem ent_ge {l : List (List D)} {c : Int} : ∀ (k i : Nat) (s : Int), s ≤ entF l c i k s
  | 0, _, _ => Int.le_refl _
  | k + 1, i, s => by
    simp only [entF]
    refine Int.le_trans ?_ (ent_ge k (i + 1) _)
    split <;> omega
theorem ent_le {l : List (List D)} {c H : Int} (h : ∀ j, ix (l.getD j []) 1 ≤ H) : ∀ (k i : Nat) (s : Int), entF l c i k s ≤ max s H
  | 0, _, s => by simp only [entF]; omega
  | k + 1, i, s => by
    simp only [entF]
    refine Int.le_trans (ent_le h k (i + 1) _) ?_
    have := h i
    split <;> omega
theorem ent_mono {l : List (List D)} {c : Int} : ∀ (k i : Nat) (s s' : Int), s ≤ s' → entF l c i k s ≤ entF l c i k s'
  | 0, _, _, _, h => h
  | k + 1, i, s, s', h => by
    simp only [entF]
    refine ent_mono k (i + 1) _ _ ?_
    split <;> split <;> omega
theorem entW_parts {n : Int} {c : List D} (h : roadB n c = true) : (∀ t, t ≤ entW c t) ∧ (∀ t, entW c t ≤ max t 100000) ∧ ∀ t t', t ≤ t' → entW c t ≤ entW c t' := by
  obtain ⟨-, -, -, -, h3⟩ := road_parts h
  exact ⟨fun t => ent_ge _ _ _, fun t => ent_le (fun j => (cl_at h3 j).2.2) _ _ _, fun t t' ht => ent_mono _ _ _ _ ht⟩

/-! ### Hops -/
theorem at_mono {n k k' : Int} {a : List (List D)} (h : okAt n k a) (hk : k ≤ k') : okAt n k' a := ⟨h.1, fun v => ⟨(h.2 v).1, by have := (h.2 v).2; omega⟩⟩
theorem hop_ok {n k : Int} {a x : List (List D)} {c : List D} (hc : roadB n c = true) (hk : 0 ≤ k) (ha : okAt n k a) (hx : okAt n (k + 1) x) : okAt n (k + 1) (hop1 c a x) := by
  obtain ⟨h1, h2, h3, -, -⟩ := road_parts hc
  obtain ⟨e1, e2, e3⟩ := entW_parts hc
  unfold hop1
  split
  · exact hx
  · rename_i h4
    split
    · refine ⟨by rw [len_rs]; exact hx.1, fun v => ?_⟩
      have hxl := hx.1
      rw [rg_rs (by omega)]
      split
      · have h5 := ha.2 (ix c 0).toNat
        have h6 := e1 (rg a (ix c 0).toNat)
        have h7 := e2 (rg a (ix c 0).toNat)
        omega
      · exact hx.2 v
    · exact hx
theorem hops_ok {n k : Int} {r a : List (List D)} (hN : netB n r = true) (hk : 0 ≤ k) (ha : okAt n k a) : ∀ (m i : Nat) (x : List (List D)), i + m ≤ r.length → okAt n (k + 1) x → okAt n (k + 1) (hopF r a i m x)
  | 0, _, _, _, h => h
  | m + 1, i, x, hm, h => hops_ok hN hk ha m (i + 1) _ (by omega) (hop_ok ((net_parts hN).2.2 i (by omega)) hk ha h)
theorem begin_ok {n v t : Int} (hn : 0 ≤ n) (hv : 0 ≤ v ∧ v < n) (ht : 0 ≤ t ∧ t ≤ 1099511627776) : okAt n 0 (beginF n v t) := by
  unfold beginF
  refine ⟨by rw [len_rs]; simp; omega, fun u => ?_⟩
  rw [rg_rs (by simp; omega)]
  split
  · omega
  · by_cases hu : u < n.toNat
    · rw [rg_rep hu]; omega
    · rw [rg_ge (by simp; omega)]; omega
end Go.Proofs.Ytgmefblkmidglaa
