/-
  RescueOpen: the law holds for every input.
-/
import Derived.Test.YtgmefblkmidglaaResPF
import Derived.Test.YtgmefblkmidglaaResTreeD
import Derived.Test.YtgmefblkmidglaaRescueOpenOver
namespace Go.Proofs.Ytgmefblkmidglaa
open Go.Lite
set_option maxRecDepth 100000
theorem ok6_4 (n : Nat) : LoopSim C (n + 12) 6 (loopOf C.P 6 4) (mkL l6_4 G6_4) := by
  refine loop_ofK hC (sp := sp6) (lp := lp6) (sw := sw6) ⟨ok15 (n + 11), ok19 (n + 9), ok20 (n + 11), ok17 (n + 5), trivial⟩ trivial 0 [] (by kernel_rfl) rfl (fun k hk => by cases hk) (by kernel_rfl) (fun ds => (((ds.getD 4 default).L.length : Int) - (ds.getD 2 default).I).toNat) fun ds rr h => ?_
  unfold G6_4 at h
  split at h
  · rename_i v t i a l
    obtain ⟨hp, h⟩ := need_some h
    rw [yes_iff] at hp
    obtain ⟨h1, hi0, hi1⟩ := hp
    refine ⟨by rw [fuelC]; simp; omega, ?_⟩
    rw [show roundTK C (mkTab sp6 lp6 sw6) 6 (loopOf C.P 6 4) 0 l6_4 [v, t, i, a, l] = _ from t6_4 v t i a l]
    obtain ⟨j, hj⟩ : ∃ j : Nat, i.I = j := ⟨i.I.toNat, by omega⟩
    simp only [hj, Int.toNat_natCast, Nat.reduceAdd, lx_def] at h hi0 hi1 ⊢
    refine rd_if (fun hlt => ?_) fun hge => rd_out (all_end h (by omega))
    obtain ⟨s1, s2⟩ := all_step h (by omega : j < l.L.length)
    unfold openB at s1 s2
    rw [wrap_succ (by omega)]
    refine rd_dec (by omega) (rd_if (fun c1 => rd_out (s1 (decide_eq_false (by omega)))) fun c1 => ?_)
    exact rd_again ((need_yes ⟨h1, by simp only [I_i]; omega, by simp only [I_i, L_l]; omega⟩).trans (s2 (decide_eq_true (by omega)))) (show ((l.L.length : Int) - ((j + 1 : Nat) : Int)).toNat < ((l.L.length : Int) - i.I).toNat by rw [hj]; omega)
  · cases h
theorem any_step {r a : List (List D)} {k : Int} {i : Nat} (hi : i < r.length) : anyLed r a k i (r.length - i) = (ledB r a k i || anyLed r a k (i + 1) (r.length - (i + 1))) := by
  unfold anyLed
  rw [show r.length - i = (r.length - (i + 1)) + 1 by omega]
  simp only [allFrom, Bool.not_and, Bool.not_not]
theorem ok6_17 (n : Nat) : LoopSim C (n + 12) 6 (loopOf C.P 6 17) (mkL l6_17 G6_17) := by
  refine loop_ofK hC (sp := sp6) (lp := lp6) (sw := sw6) ⟨ok15 (n + 11), ok19 (n + 9), ok20 (n + 11), ok17 (n + 5), trivial⟩ trivial 0 [] (by kernel_rfl) rfl (fun k hk => by cases hk) (by kernel_rfl) (fun ds => (((ds.getD 6 default).L.length : Int) - (ds.getD 4 default).I).toNat) fun ds rr h => ?_
  unfold G6_17 at h
  split at h
  · rename_i v m k b i n' r a
    obtain ⟨hp, h⟩ := need_some h
    rw [yes_iff] at hp
    obtain ⟨hN, hm, ha, hk, hi0, hi1⟩ := hp
    obtain ⟨p1, p2, p3⟩ := net_parts hN
    refine ⟨by rw [fuelC]; simp; omega, ?_⟩
    rw [show roundTK C (mkTab sp6 lp6 sw6) 6 (loopOf C.P 6 17) 0 l6_17 [v, m, k, b, i, n', r, a] = _ from t6_17 v m k b i n' r a]
    obtain ⟨j, hj⟩ : ∃ j : Nat, i.I = j := ⟨i.I.toNat, by omega⟩
    have hnn : (n'.I.toNat : Int) = n'.I := by omega
    simp only [hj, hm, hnn, Int.toNat_natCast, Nat.reduceAdd, ix_def, ix_rg] at h hi0 hi1 ⊢
    refine rd_if (fun hlt => ?_) fun hge => ?_
    · obtain ⟨q1, q2, q3, q4, q5⟩ := road_parts (p3 j (by omega))
      have hal := ha.1
      have hat := ha.2 (ix (r.L.getD j []) 0).toNat
      rw [any_step (by omega), ← Bool.or_assoc] at h
      have key : ∀ x : Bool, (b.B || ledB r.L a.L k.I j) = x → (G6_17 [.i v.I, .i n'.I, .i k.I, .b x, .i ((j + 1 : Nat) : Int), .i n'.I, .l r.L, .l a.L]).run = some rr := fun x e => by
        rw [e] at h
        exact (need_yes ⟨hN, rfl, ha, hk, by simp only [I_i]; omega, by simp only [I_i, L_l]; omega⟩).trans h
      have hmu : ((r.L.length : Int) - ((j + 1 : Nat) : Int)).toNat < ((r.L.length : Int) - i.I).toNat := by rw [hj]; omega
      have lt : ix (r.L.getD j []) 1 = k.I ∧ 0 ≤ rg a.L (rg r.L j).toNat ∧ rg a.L (rg r.L j).toNat + ix (r.L.getD j []) 2 = rg a.L k.I.toNat → ledB r.L a.L k.I j = true := fun c => by unfold ledB; exact decide_eq_true c
      have lf : ¬ (ix (r.L.getD j []) 1 = k.I ∧ 0 ≤ rg a.L (rg r.L j).toNat ∧ rg a.L (rg r.L j).toNat + ix (r.L.getD j []) 2 = rg a.L k.I.toNat) → ledB r.L a.L k.I j = false := fun c => by unfold ledB; exact decide_eq_false c
      simp only [ix_rg] at q1 hat
      rw [wrap_succ (by omega)]
      refine rd_dec (by omega) (rd_ite (fun c1 => rd_again (key _ (by rw [c1]; rfl)) hmu) fun c1 => rd_ite (fun c2 => ?_) fun c2 => ?_)
      · have c2 := eq_of_beq c2
        refine rd_dec (by omega) (rd_dec (by omega) (rd_if (fun c3 => ?_) fun c3 => ?_))
        · rw [wrap_id (by omega) (by omega)]
          refine rd_dec (by omega) (rd_dec (by omega) (rd_dec (by omega) (rd_dec (by omega) (rd_again (key _ ?_) hmu))))
          rw [c1, Bool.false_or]
          by_cases c4 : rg a.L (rg r.L j).toNat + ix (r.L.getD j []) 2 = rg a.L k.I.toNat
          · rw [lt ⟨c2, by omega, c4⟩, c4]; simp
          · rw [lf (fun hh => c4 hh.2.2)]
            exact (beq_eq_false_iff_ne.2 c4).symm
        · exact rd_again (key _ (by rw [c1, lf (by omega)]; rfl)) hmu
      · have c2 := ne_of_beq_false c2
        exact rd_again (key _ (by rw [c1, lf (fun hh => c2 hh.1)]; rfl)) hmu
    · rw [show r.L.length - j = 0 by omega] at h
      have : anyLed r.L a.L k.I j 0 = false := rfl
      rw [this, Bool.or_false] at h
      exact rd_out h
  · cases h
theorem ok6_12 (n : Nat) : LoopSim C (n + 12) 6 (loopOf C.P 6 12) (mkL l6_12 G6_12) := by
  refine loop_ofK hC (sp := sp6) (lp := lp6) (sw := sw6) ⟨ok15 (n + 11), ok19 (n + 9), ok20 (n + 11), ok17 (n + 5), trivial⟩ trivial 0 [17] (by kernel_rfl) (by kernel_rfl) (fun k hk L hL => by simp at hk; subst hk; cases hL; exact ok6_17 n) (by kernel_rfl) (fun ds => ((ds.getD 3 default).I - (ds.getD 2 default).I).toNat) fun ds rr h => ?_
  unfold G6_12 at h
  split at h
  · rename_i v m k n' r a
    obtain ⟨hp, h⟩ := need_some h
    rw [yes_iff] at hp
    obtain ⟨hN, hm, ha, hk0, hk1⟩ := hp
    obtain ⟨p1, p2, p3⟩ := net_parts hN
    refine ⟨by rw [fuelC]; simp; omega, ?_⟩
    rw [show roundTK C (mkTab sp6 lp6 sw6) 6 (loopOf C.P 6 12) 0 l6_12 [v, m, k, n', r, a] = _ from t6_12 v m k n' r a]
    obtain ⟨j, hj⟩ : ∃ j : Nat, k.I = j := ⟨k.I.toNat, by omega⟩
    have hnn : (n'.I.toNat : Int) = n'.I := by omega
    have hal := ha.1
    simp only [hj, hm, hnn, Int.toNat_natCast, Int.toNat_zero, Nat.sub_zero, rg_def, Bool.false_or] at h hk0 hk1 ⊢
    refine rd_if (fun hlt => ?_) fun hge => rd_out (all_end h (by omega))
    obtain ⟨s1, s2⟩ := all_step h (by omega : j < n'.I.toNat)
    rw [wrap_succ (by omega)]
    have hmu : (n'.I - ((j + 1 : Nat) : Int)).toNat < (n'.I - k.I).toNat := by rw [hj]; omega
    have key : ledR r.L a.L v.I j = true → (G6_12 [.i v.I, .i n'.I, .i ((j + 1 : Nat) : Int), .i n'.I, .l r.L, .l a.L]).run = some rr := fun e =>
      (need_yes ⟨hN, rfl, ha, by simp only [I_i]; omega, by simp only [I_i]; omega⟩).trans (s2 e)
    unfold ledR at key s1
    refine rd_ite (fun c1 => ?_) fun c1 => ?_
    · have c1 := eq_of_beq c1
      exact rd_again (key (by rw [decide_eq_true (.inl c1)]; rfl)) hmu
    · have c1 := ne_of_beq_false c1
      refine rd_dec (by omega) (rd_dec (by omega) (rd_if (fun c2 => rd_again (key (by rw [decide_eq_true (.inr c2)]; rfl)) hmu) fun c2 => ?_))
      refine rd_yes ⟨hN, trivial, ha, by omega, by omega, by omega⟩ (rd_not (fun c3 => rd_out (s1 ?_)) fun c3 => rd_again (key ?_) hmu)
      · rw [c3, decide_eq_false (by omega)]; rfl
      · rw [c3, Bool.or_true]
  · cases h
theorem ok6_24 (n : Nat) : LoopSim C (n + 12) 6 (loopOf C.P 6 24) (mkL l6_24 G6_24) := by
  refine loop_ofK hC (sp := sp6) (lp := lp6) (sw := sw6) ⟨ok15 (n + 11), ok19 (n + 9), ok20 (n + 11), ok17 (n + 5), trivial⟩ trivial 0 [] (by kernel_rfl) rfl (fun k hk => by cases hk) (by kernel_rfl) (fun ds => (((ds.getD 3 default).L.length : Int) - (ds.getD 1 default).I).toNat) fun ds rr h => ?_
  unfold G6_24 at h
  split at h
  · rename_i m i n' r a
    obtain ⟨hp, h⟩ := need_some h
    rw [yes_iff] at hp
    obtain ⟨hN, hm, ha, hi0, hi1⟩ := hp
    obtain ⟨p1, p2, p3⟩ := net_parts hN
    refine ⟨by rw [fuelC]; simp; omega, ?_⟩
    rw [show roundTK C (mkTab sp6 lp6 sw6) 6 (loopOf C.P 6 24) 0 l6_24 [m, i, n', r, a] = _ from t6_24 m i n' r a]
    obtain ⟨j, hj⟩ : ∃ j : Nat, i.I = j := ⟨i.I.toNat, by omega⟩
    have hnn : (n'.I.toNat : Int) = n'.I := by omega
    have hal := ha.1
    simp only [hj, hm, hnn, Int.toNat_natCast, Nat.reduceAdd, ix_def, ix_rg] at h hi0 hi1 ⊢
    refine rd_if (fun hlt => ?_) fun hge => rd_out (all_end h (by omega))
    obtain ⟨q1, q2, q3, q4, q5⟩ := road_parts (p3 j (by omega))
    have hat := ha.2 (ix (r.L.getD j []) 0).toNat
    obtain ⟨s1, s2⟩ := all_step h (by omega : j < r.L.length)
    have hmu : ((r.L.length : Int) - ((j + 1 : Nat) : Int)).toNat < ((r.L.length : Int) - i.I).toNat := by rw [hj]; omega
    have key : tightB r.L a.L j = true → (G6_24 [.i n'.I, .i ((j + 1 : Nat) : Int), .i n'.I, .l r.L, .l a.L]).run = some rr := fun e =>
      (need_yes ⟨hN, rfl, ha, by simp only [I_i]; omega, by simp only [I_i, L_l]; omega⟩).trans (s2 e)
    unfold tightB at key s1
    simp only [ix_rg] at q1 hat key s1
    rw [wrap_succ (by omega)]
    refine rd_dec (by omega) (rd_dec (by omega) (rd_dec (by omega) (rd_if (fun c1 => ?_) fun c1 => rd_again (key (decide_eq_true (.inl (by omega)))) hmu)))
    refine rd_dec (by omega) (rd_dec (by omega) (rd_if (fun c2 => rd_out (s1 (decide_eq_false (by omega)))) fun c2 => ?_))
    rw [wrap_id (by omega) (by omega)]
    exact rd_dec (by omega) (rd_dec (by omega) (rd_dec (by omega) (rd_dec (by omega) (rd_if (fun c3 => rd_out (s1 (decide_eq_false (by omega)))) fun c3 => rd_again (key (decide_eq_true (.inr (by omega)))) hmu))))
  · cases h
section
variable {n : Int} {r : List (List D)} {v t : Int}
theorem open_ent (h : allFrom (openB r) 0 r.length = true) {j : Nat} (hj : j < r.length) (x : Int) : entW (r.getD j []) x = x := by
  have := allFrom_iff.1 h j (Nat.zero_le _) (by omega)
  unfold openB at this
  rw [decide_eq_true_iff] at this
  unfold entW
  rw [this]
  rfl
theorem open_law (hN : netB n r = true) (hO : allFrom (openB r) 0 r.length = true) (hv : 0 ≤ v ∧ v < n) (ht : 0 ≤ t ∧ t ≤ 100000) :
    rg (arrF n r v t) v.toNat = t ∧ allFrom (ledR r (arrF n r v t) v) 0 n.toNat = true ∧ allFrom (tightB r (arrF n r v t)) 0 r.length = true := by
  have hI : INF = 9223372036854775807 := rfl
  obtain ⟨p1, p2, p3⟩ := net_parts hN
  have hE := edR_ok hN
  obtain ⟨⟨a1, a2⟩, d, hL, hd⟩ := arr_ok hN hv ht
  generalize arrF n r v t = a at *
  have hneg : ∀ u, u < n.toNat → ¬ rg a u < 0 → rg a u = d u ∧ d u < INF := fun u hu h => by
    have h1 := hd u hu
    have h2 := (a2 u).2
    unfold cv at h1
    rw [if_neg h] at h1
    omega
  have hpos : ∀ u, u < n.toNat → d u < INF → rg a u = d u := fun u hu h => by
    have h1 := hd u hu
    unfold cv at h1
    split at h1 <;> omega
  refine ⟨?_, ?_, ?_⟩
  · have h1 := hL.2.2 _ _ .here
    have h2 := walk_lo hE (hL.2.1 v.toNat (by omega) (by omega))
    rw [hpos v.toNat (by omega) (by omega)]
    omega
  · rw [allFrom_iff]
    intro k _ hk
    unfold ledR
    by_cases c : (k : Int) = v ∨ rg a k < 0
    · rw [decide_eq_true c]; rfl
    · rw [decide_eq_false c, Bool.false_or]
      obtain ⟨e1, e2⟩ := hneg k (by omega) (fun h => c (.inr h))
      rcases walk_inv (hL.2.1 k (by omega) e2) with ⟨w1, w2⟩ | ⟨j, t', hj, w1, w2, hw⟩
      · exact absurd (.inl w1) c
      · have g1 := hE.up j hj t'
        have g2 := hL.2.2 _ _ hw
        have g3 := hE.fr j hj
        have g4 := hE.to j hj
        have g5 := hE.mono j hj _ _ g2
        have g6 := hpos ((edR r).fr j).toNat (by omega) (by omega)
        have g7 := hL.2.2 _ _ (Walk.step (by
          have := hL.2.1 ((edR r).fr j).toNat (by omega) (by omega)
          rwa [show ((((edR r).fr j).toNat : Nat) : Int) = (edR r).fr j by omega] at this) hj)
        rw [← w1, Int.toNat_natCast] at g7
        have g8 := walk_lo hE (hL.2.1 ((edR r).fr j).toNat (by omega) (by omega))
        have g9 : (edR r).fn j (d ((edR r).fr j).toNat) = d ((edR r).fr j).toNat + ix (r.getD j []) 2 := by
          show entW (r.getD j []) _ + ix (r.getD j []) 2 = _
          rw [open_ent hO hj]
        have hl : ledB r a (k : Int) j = true := by
          unfold ledB
          refine decide_eq_true ⟨w1.symm, ?_, ?_⟩
          · show 0 ≤ rg a ((edR r).fr j).toNat
            omega
          · show rg a ((edR r).fr j).toNat + ix (r.getD j []) 2 = rg a ((k : Nat) : Int).toNat
            rw [Int.toNat_natCast]
            omega
        unfold anyLed
        rw [Bool.not_eq_true', allFrom_false]
        exact ⟨j, Nat.zero_le _, by have : j < r.length := hj; omega, by rw [hl]; rfl⟩
  · rw [allFrom_iff]
    intro j _ hj
    have hj : j < (edR r).m := by show j < r.length; omega
    have g3 := hE.fr j hj
    have g4 := hE.to j hj
    unfold tightB
    refine decide_eq_true ?_
    show rg a ((edR r).fr j).toNat < 0 ∨ 0 ≤ rg a ((edR r).to j).toNat ∧ rg a ((edR r).to j).toNat ≤ rg a ((edR r).fr j).toNat + ix (r.getD j []) 2
    by_cases c : rg a ((edR r).fr j).toNat < 0
    · exact .inl c
    · obtain ⟨e1, e2⟩ := hneg _ (by omega) c
      have hw := hL.2.1 ((edR r).fr j).toNat (by omega) e2
      rw [show ((((edR r).fr j).toNat : Nat) : Int) = (edR r).fr j by omega] at hw
      have g7 := hL.2.2 _ _ (Walk.step hw hj)
      have g9 : (edR r).fn j (d ((edR r).fr j).toNat) = d ((edR r).fr j).toNat + ix (r.getD j []) 2 := by
        show entW (r.getD j []) _ + ix (r.getD j []) 2 = _
        rw [open_ent hO hj]
      have hb := (a2 ((edR r).fr j).toNat).2
      have hr := (road_parts (p3 j hj)).2.2.1
      have g10 := hpos ((edR r).to j).toNat (by omega) (by omega)
      have g11 := walk_lo hE (hL.2.1 ((edR r).to j).toNat (by omega) (by omega))
      exact .inr ⟨by omega, by omega⟩
end
theorem law6 (a b c d : D) : (fnT C (mkTab sp6 lp6 sw6) 6 s6 [a, b, c, d]).run = some [D.b true] := by
  refine (congrArg T.run (t6 a b c d)).trans (go_not (fun _ => rfl) fun _ => go_not (fun _ => rfl) fun hN => go_not (fun _ => rfl) fun hO => go_if (fun _ => rfl) fun h7 => ?_)
  obtain ⟨p1, p2, p3⟩ := net_parts hN
  obtain ⟨hv, ht⟩ := node_iff.1 hO
  have hn : (a.I.toNat : Int) = a.I := by omega
  simp only [Int.toNat_zero, Nat.sub_zero, hn, rg_def]
  refine go_yes ⟨p2, by omega, by omega⟩ (go_ite (fun hop => ?_) fun _ => rfl)
  obtain ⟨l1, l2, l3⟩ := open_law hN hop hv ht
  have hok := (arr_ok hN hv ht).1
  have hol := hok.1
  refine go_true (by rw [hN, hO]; rfl) (go_false rfl (go_false (by simp) (go_dec hv (go_dec (by omega) (go_false (by rw [l1]; simp) (go_yes ⟨hN, trivial, hok, by omega, by omega⟩ (go_true l2 (go_yes ⟨hN, trivial, hok, by omega, by omega⟩ (go_true l3 rfl)))))))))
theorem rescueOpen_law : rescueOpenLaw := fun xs hx =>
  law_true_wfW hC (sp := sp6) (lp := lp6) (sw := sw6) (n := 12) ⟨ok15 11, ok19 9, ok20 11, ok17 5, trivial⟩ trivial (by kernel_rfl) [4, 12, 24] (by kernel_rfl) (by kernel_rfl) (fun k hk L hL => by
      simp at hk
      rcases hk with rfl | rfl | rfl <;> cases hL
      · exact ok6_4 0
      · exact ok6_12 0
      · exact ok6_24 0)
    (ts := [24, 3, 3]) (ks := s6.args) (by kernel_rfl) (of_decide_eq_true (by kernel_rfl)) (m := 4) (by kernel_rfl) (fun ds hl _ => by
      match ds, hl with
      | [a, b, c, d], _ => exact law6 a b c d) 12 xs hx
theorem rescue_open : Rows.RescueOpenSaid := rescueOpen_over rescueOpen_law
end Go.Proofs.Ytgmefblkmidglaa
