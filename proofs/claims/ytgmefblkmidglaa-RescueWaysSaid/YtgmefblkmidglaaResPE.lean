/-
  Hops compute what their words say.
-/
import Derived.Test.YtgmefblkmidglaaResPD
import Derived.Test.YtgmefblkmidglaaResHop
namespace Go.Proofs.Ytgmefblkmidglaa
open Go.Lite
set_option maxRecDepth 100000
theorem ix_rg (X : List (List D)) (j : Nat) : ix (X.getD j []) 0 = rg X j := rfl
theorem ok49_3 (n : Nat) : LoopSim C (n + 1) 49 (loopOf C.P 49 3) (mkL l49_3 G49_3) := by
  refine loop_ofK hC (sp := sp49) (lp := lp49) (sw := sw49) ⟨ok25 n, trivial⟩ trivial 0 [] (by kernel_rfl) rfl (fun k hk => by cases hk) (by kernel_rfl) (fun ds => ((ds.getD 5 default).I - (ds.getD 4 default).I).toNat) fun ds rr h => ?_
  unfold G49_3 at h
  split at h
  · rename_i v t hh m i n' r a
    obtain ⟨hp, h⟩ := need_some h
    rw [yes_iff] at hp
    obtain ⟨h0, hm, ha, hi0, hi1⟩ := hp
    refine ⟨by rw [fuelC]; simp; omega, ?_⟩
    rw [show roundTK C (mkTab sp49 lp49 sw49) 49 (loopOf C.P 49 3) 0 l49_3 [v, t, hh, m, i, n', r, a] = _ from t49_3 v t hh m i n' r a]
    obtain ⟨j, hj⟩ : ∃ j : Nat, i.I = j := ⟨i.I.toNat, by omega⟩
    have hn : (n'.I.toNat : Int) = n'.I := by omega
    simp only [hj, hm, hn, Int.toNat_natCast, upd1, rs_def] at h hi0 hi1 ⊢
    refine rd_if (fun hlt => ?_) fun hge => ?_
    · rw [wrap_succ (by omega)]
      rw [show n'.I.toNat - j = (n'.I.toNat - (j + 1)) + 1 by omega] at h
      refine rd_dec (by omega) (rd_dec (by omega) (rd_again ((need_yes ⟨h0, rfl, by simp only [L_l, I_i, len_rs]; exact ha, by simp only [I_i]; omega, by simp only [I_i]; omega⟩).trans h) ?_))
      show (n'.I - ((j + 1 : Nat) : Int)).toNat < (n'.I - i.I).toNat
      rw [hj]; omega
    · rw [show n'.I.toNat - j = 0 by omega] at h
      exact rd_out h
  · cases h
theorem ok49_12 (n : Nat) : LoopSim C (n + 1) 49 (loopOf C.P 49 12) (mkL l49_12 G49_12) := by
  refine loop_ofK hC (sp := sp49) (lp := lp49) (sw := sw49) ⟨ok25 n, trivial⟩ trivial 0 [] (by kernel_rfl) rfl (fun k hk => by cases hk) (by kernel_rfl) (fun ds => (((ds.getD 6 default).L.length : Int) - (ds.getD 4 default).I).toNat) fun ds rr h => ?_
  unfold G49_12 at h
  split at h
  · rename_i hh m k m' j n' r a x
    obtain ⟨hp, h⟩ := need_some h
    rw [yes_iff] at hp
    obtain ⟨hN, hm, hm', ha, hx, hk0, hk1, hj0, hj1⟩ := hp
    obtain ⟨p1, p2, p3⟩ := net_parts hN
    refine ⟨by rw [fuelC]; simp; omega, ?_⟩
    rw [show roundTK C (mkTab sp49 lp49 sw49) 49 (loopOf C.P 49 12) 0 l49_12 [hh, m, k, m', j, n', r, a, x] = _ from t49_12 hh m k m' j n' r a x]
    obtain ⟨i, hi⟩ : ∃ i : Nat, j.I = i := ⟨j.I.toNat, by omega⟩
    have hnn : (n'.I.toNat : Int) = n'.I := by omega
    simp only [hi, hm, hm', hnn, Int.toNat_natCast, Nat.reduceAdd, ix_def, lx_def, ix_rg, upd1, rs_def] at h hj0 hj1 ⊢
    refine rd_if (fun hlt => ?_) fun hge => ?_
    · have hR := p3 i (by omega)
      obtain ⟨q1, q2, q3, q4, q5⟩ := road_parts hR
      obtain ⟨e1, e2, e3⟩ := entW_parts hR
      obtain ⟨o1, o2⟩ := road_okC hR
      have hx' := hop_ok hR hk0 ha hx
      have hal := ha.1
      have hxl := hx.1
      have hat := ha.2 (ix (r.L.getD i []) 0).toNat
      have h6 := e1 (rg a.L (ix (r.L.getD i []) 0).toNat)
      have h7 := e2 (rg a.L (ix (r.L.getD i []) 0).toNat)
      rw [show r.L.length - i = (r.L.length - (i + 1)) + 1 by omega] at h
      simp only [hopF] at h
      have key : ∀ y, hop1 (r.L.getD i []) a.L x.L = y → (G49_12 [.i hh.I, .i n'.I, .i k.I, .i n'.I, .i ((i + 1 : Nat) : Int), .i n'.I, .l r.L, .l a.L, .l y]).run = some rr := fun y e => by
        rw [e] at h hx'
        exact (need_yes ⟨hN, rfl, rfl, ha, hx', hk0, hk1, by simp only [I_i]; omega, by simp only [I_i, L_l]; omega⟩).trans h
      have hmu : ((r.L.length : Int) - ((i + 1 : Nat) : Int)).toNat < ((r.L.length : Int) - j.I).toNat := by rw [hi]; omega
      have f1 : rg a.L (ix (r.L.getD i []) 0).toNat < 0 → hop1 (r.L.getD i []) a.L x.L = x.L := fun c => if_pos c
      have f2 : ¬ rg a.L (ix (r.L.getD i []) 0).toNat < 0 → (rg x.L (ix (r.L.getD i []) 1).toNat < 0 ∨ entW (r.L.getD i []) (rg a.L (ix (r.L.getD i []) 0).toNat) + ix (r.L.getD i []) 2 < rg x.L (ix (r.L.getD i []) 1).toNat) → hop1 (r.L.getD i []) a.L x.L = rs x.L (ix (r.L.getD i []) 1).toNat (entW (r.L.getD i []) (rg a.L (ix (r.L.getD i []) 0).toNat) + ix (r.L.getD i []) 2) := fun c c' => by
        unfold hop1
        rw [if_neg c, if_pos c']
      have f3 : ¬ rg a.L (ix (r.L.getD i []) 0).toNat < 0 → ¬ (rg x.L (ix (r.L.getD i []) 1).toNat < 0 ∨ entW (r.L.getD i []) (rg a.L (ix (r.L.getD i []) 0).toNat) + ix (r.L.getD i []) 2 < rg x.L (ix (r.L.getD i []) 1).toNat) → hop1 (r.L.getD i []) a.L x.L = x.L := fun c c' => by
        unfold hop1
        rw [if_neg c, if_neg c']
      unfold entW at f2 f3 h6 h7
      simp only [ix_rg] at q1 hat h6 h7 f1 f2 f3
      rw [wrap_succ (by omega)]
      refine rd_dec (by omega) (rd_dec (by omega) (rd_dec (by omega) (rd_if (fun c1 => ?_) fun c1 => ?_)))
      · exact rd_again (key _ (f1 c1)) hmu
      · refine rd_dec (by omega) (rd_dec (by omega) (rd_yes ⟨o1, by unfold okS; omega, o2⟩ (rd_dec (by omega) (rd_dec (by omega) ?_))))
        rw [wrap_id (by omega) (by omega)]
        refine rd_if (fun c2 => ?_) fun c2 => rd_dec (by omega) (rd_dec (by omega) (rd_if (fun c3 => ?_) fun c3 => ?_))
        · exact rd_dec (by omega) (rd_dec (by omega) (rd_again (key _ (f2 c1 (.inl c2))) hmu))
        · exact rd_dec (by omega) (rd_dec (by omega) (rd_again (key _ (f2 c1 (.inr c3))) hmu))
        · exact rd_again (key _ (f3 c1 (by omega))) hmu
    · rw [show r.L.length - i = 0 by omega] at h
      exact rd_out h
  · cases h
theorem ok49_8 (n : Nat) : LoopSim C (n + 1) 49 (loopOf C.P 49 8) (mkL l49_8 G49_8) := by
  have hby : Try.prog.types[3].bytes = 8 := by kernel_rfl
  refine loop_ofK hC (sp := sp49) (lp := lp49) (sw := sw49) ⟨ok25 n, trivial⟩ trivial 0 [12] (by kernel_rfl) (by kernel_rfl) (fun k hk L hL => by simp at hk; subst hk; cases hL; exact ok49_12 n) (by kernel_rfl) (fun ds => ((ds.getD 0 default).I - (ds.getD 2 default).I).toNat) fun ds rr h => ?_
  unfold G49_8 at h
  split at h
  · rename_i hh m k n' r a
    obtain ⟨hp, h⟩ := need_some h
    rw [yes_iff] at hp
    obtain ⟨hN, hm, ha, hk0, hk1, hk2⟩ := hp
    obtain ⟨p1, p2, p3⟩ := net_parts hN
    refine ⟨by rw [fuelC]; simp; omega, ?_⟩
    rw [show roundTK C (mkTab sp49 lp49 sw49) 49 (loopOf C.P 49 8) 0 l49_8 [hh, m, k, n', r, a] = _ from t49_8 hh m k n' r a]
    obtain ⟨j, hj⟩ : ∃ j : Nat, k.I = j := ⟨k.I.toNat, by omega⟩
    have hn : (n'.I.toNat : Int) = n'.I := by omega
    have hal := ha.1
    have htk : a.L.take n'.I.toNat = a.L := List.take_of_length_le (by omega)
    have ha' := at_mono ha (by omega : k.I ≤ k.I + 1)
    have hho := hops_ok hN hk0 ha r.L.length 0 a.L (by omega) ha'
    simp only [hj, hm, hn, htk, Int.toNat_natCast, Int.toNat_zero, Nat.sub_zero] at h hk0 hk1 ha ha' hho ⊢
    refine rd_if (fun hlt => ?_) fun hge => ?_
    · rw [wrap_succ (by omega)]
      rw [show hh.I.toNat - j = (hh.I.toNat - (j + 1)) + 1 by omega] at h
      have hne : a.L.isEmpty = false := by
        cases ha9 : a.L with
        | nil => rw [ha9] at hal; simp at hal; omega
        | cons _ _ => rfl
      refine rd_dec (by omega) (rd_false hne (rd_dec ⟨by omega, by rw [hby]; omega⟩ (rd_yes ⟨hN, trivial, hal, ha, ha', by omega, by omega, by omega, by omega⟩ (rd_again ((need_yes ⟨hN, rfl, hho, by simp only [I_i]; omega, by simp only [I_i]; omega, hk2⟩).trans h) ?_))))
      show (hh.I - ((j + 1 : Nat) : Int)).toNat < (hh.I - k.I).toNat
      rw [hj]; omega
    · rw [show hh.I.toNat - j = 0 by omega] at h
      exact rd_out h
  · cases h
theorem ok49 (n : Nat) : FnOK C (n + 2) 49 (mkF s49 G49) := by
  have hby : Try.prog.types[3].bytes = 8 := by kernel_rfl
  refine fn_ofS hC (sp := sp49) (lp := lp49) (sw := sw49) ⟨ok25 n, trivial⟩ trivial (by kernel_rfl) [3, 8] (by kernel_rfl) (by kernel_rfl) (fun k hk L hL => by
    simp at hk; rcases hk with rfl | rfl <;> cases hL
    · exact ok49_3 n
    · exact ok49_8 n) fun ds r h => ?_
  unfold G49 at h
  split at h
  · rename_i n' r' v t hh
    obtain ⟨hp, h⟩ := need_some h
    rw [yes_iff] at hp
    obtain ⟨hN, hv, ht, hh0, hh1⟩ := hp
    obtain ⟨p1, p2, p3⟩ := net_parts hN
    refine (congrArg T.run (t49 n' r' v t hh)).trans ?_
    have hn : (n'.I.toNat : Int) = n'.I := by omega
    have hok := begin_ok (by omega : 0 ≤ n'.I) hv ht
    unfold beginF at h hok
    simp only [List.length_replicate, Int.toNat_zero, Nat.sub_zero, fill_all, upd1, rs_def, hn]
    exact go_dec ⟨by omega, trivial, by omega, by rw [hby]; omega⟩ (go_yes ⟨p1, trivial, trivial, by omega, by omega⟩ (go_dec (by omega) (go_dec (by simp; omega) (go_yes ⟨hN, trivial, hok, by omega, by omega, by omega⟩ h))))
  · cases h
theorem ok22 (n : Nat) : FnOK C (n + 3) 22 (mkF s22 G22) := by
  refine fn_ofS hC (sp := sp22) (lp := lp22) (sw := sw22) ⟨ok49 n, trivial⟩ trivial (by kernel_rfl) [] (by kernel_rfl) rfl (fun k hk => by cases hk) fun ds r h => ?_
  unfold G22 at h
  split at h
  · rename_i n' r' v t
    obtain ⟨hp, h⟩ := need_some h
    rw [yes_iff] at hp
    obtain ⟨hN, hv, ht⟩ := hp
    obtain ⟨p1, p2, p3⟩ := net_parts hN
    refine (congrArg T.run (t22 n' r' v t)).trans ?_
    have hn : (n'.I.toNat : Int) = n'.I := by omega
    rw [hn]
    exact go_yes ⟨hN, hv, ht, by omega, by omega⟩ h
  · cases h
end Go.Proofs.Ytgmefblkmidglaa
