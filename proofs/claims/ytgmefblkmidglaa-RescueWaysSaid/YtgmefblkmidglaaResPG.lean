/-
  Exact hops compute what their words say.
-/
import Derived.Test.YtgmefblkmidglaaResPF
import Derived.Test.YtgmefblkmidglaaResTreeE
namespace Go.Proofs.Ytgmefblkmidglaa
open Go.Lite
set_option maxRecDepth 100000
theorem ok50_3 (n : Nat) : LoopSim C (n + 1) 50 (loopOf C.P 50 3) (mkL l50_3 G50_3) := by
  refine loop_ofK hC (sp := sp50) (lp := lp50) (sw := sw50) ⟨ok51 n, trivial⟩ trivial 0 [] (by kernel_rfl) rfl (fun k hk => by cases hk) (by kernel_rfl) (fun ds => ((ds.getD 3 default).I - (ds.getD 4 default).I).toNat) fun ds rr h => ?_
  unfold G50_3 at h
  split at h
  · rename_i to hh m m' i n' r v t a
    obtain ⟨hp, h⟩ := need_some h
    rw [yes_iff] at hp
    obtain ⟨h0, hm, hm', ha, hi0, hi1⟩ := hp
    refine ⟨by rw [fuelC]; simp; omega, ?_⟩
    rw [show roundTK C (mkTab sp50 lp50 sw50) 50 (loopOf C.P 50 3) 0 l50_3 [to, hh, m, m', i, n', r, v, t, a] = _ from t50_3 to hh m m' i n' r v t a]
    obtain ⟨j, hj⟩ : ∃ j : Nat, i.I = j := ⟨i.I.toNat, by omega⟩
    have hn : (n'.I.toNat : Int) = n'.I := by omega
    simp only [hj, hm, hm', hn, Int.toNat_natCast, upd1, rs_def] at h hi0 hi1 ⊢
    refine rd_if (fun hlt => ?_) fun hge => ?_
    · rw [wrap_succ (by omega)]
      rw [show n'.I.toNat - j = (n'.I.toNat - (j + 1)) + 1 by omega] at h
      refine rd_dec (by omega) (rd_dec (by omega) (rd_again ((need_yes ⟨h0, rfl, rfl, by simp only [L_l, I_i, len_rs]; exact ha, by simp only [I_i]; omega, by simp only [I_i]; omega⟩).trans h) ?_))
      show (n'.I - ((j + 1 : Nat) : Int)).toNat < (m'.I - i.I).toNat
      rw [hj, hm']; omega
    · rw [show n'.I.toNat - j = 0 by omega] at h
      exact rd_out h
  · cases h
theorem ok50_12 (n : Nat) : LoopSim C (n + 1) 50 (loopOf C.P 50 12) (mkL l50_12 G50_12) := by
  refine loop_ofK hC (sp := sp50) (lp := lp50) (sw := sw50) ⟨ok51 n, trivial⟩ trivial 0 [] (by kernel_rfl) rfl (fun k hk => by cases hk) (by kernel_rfl) (fun ds => ((ds.getD 5 default).I - (ds.getD 6 default).I).toNat) fun ds rr h => ?_
  unfold G50_12 at h
  split at h
  · rename_i to m m' hh k q i n' r a x
    obtain ⟨hp, h⟩ := need_some h
    rw [yes_iff] at hp
    obtain ⟨h0, hm, hm', hq, ha, hx, hi0, hi1⟩ := hp
    refine ⟨by rw [fuelC]; simp; omega, ?_⟩
    rw [show roundTK C (mkTab sp50 lp50 sw50) 50 (loopOf C.P 50 12) 0 l50_12 [to, m, m', hh, k, q, i, n', r, a, x] = _ from t50_12 to m m' hh k q i n' r a x]
    obtain ⟨j, hj⟩ : ∃ j : Nat, i.I = j := ⟨i.I.toNat, by omega⟩
    have hn : (n'.I.toNat : Int) = n'.I := by omega
    simp only [hj, hm, hm', hq, hn, Int.toNat_natCast, upd1, rs_def] at h hi0 hi1 ⊢
    refine rd_if (fun hlt => ?_) fun hge => ?_
    · rw [wrap_succ (by omega)]
      rw [show n'.I.toNat - j = (n'.I.toNat - (j + 1)) + 1 by omega] at h
      refine rd_dec (by omega) (rd_dec (by omega) (rd_again ((need_yes ⟨h0, rfl, rfl, rfl, ha, by simp only [L_l, I_i, len_rs]; exact hx, by simp only [I_i]; omega, by simp only [I_i]; omega⟩).trans h) ?_))
      show (n'.I - ((j + 1 : Nat) : Int)).toNat < (q.I - i.I).toNat
      rw [hj, hq]; omega
    · rw [show n'.I.toNat - j = 0 by omega] at h
      exact rd_out h
  · cases h
theorem ex_ok {n k : Int} {a x : List (List D)} {c : List D} (hc : roadB n c = true) (hk : 0 ≤ k) (ha : okEx n k a) (hx : okEx n (k + 1) x) : okEx n (k + 1) (ex1 c a x) := by
  obtain ⟨h1, h2, h3, -, -⟩ := road_parts hc
  obtain ⟨e1, e2, e3⟩ := entW_parts hc
  unfold ex1
  split
  · rename_i h4
    refine ⟨by rw [len_rs]; exact hx.1, fun v => ?_⟩
    have hxl := hx.1
    rw [rg_rs (by omega)]
    have h5 := ha.2 (ix c 0).toNat
    have h6 := e1 (rg a (ix c 0).toNat)
    have h7 := e2 (rg a (ix c 0).toNat)
    have h8 := hx.2 (ix c 1).toNat
    have h9 := hx.2 v
    split
    · split <;> omega
    · exact h9
  · exact hx
theorem ok50_17 (n : Nat) : LoopSim C (n + 1) 50 (loopOf C.P 50 17) (mkL l50_17 G50_17) := by
  refine loop_ofK hC (sp := sp50) (lp := lp50) (sw := sw50) ⟨ok51 n, trivial⟩ trivial 0 [] (by kernel_rfl) rfl (fun k hk => by cases hk) (by kernel_rfl) (fun ds => ((ds.getD 6 default).I - (ds.getD 7 default).I).toNat) fun ds rr h => ?_
  unfold G50_17 at h
  split at h
  · rename_i to m m' hh k r' q j n' r a x
    obtain ⟨hp, h⟩ := need_some h
    rw [yes_iff] at hp
    obtain ⟨hN, hr, hq, hm, hm', ha, hx, hk0, hk1, hj0, hj1⟩ := hp
    obtain ⟨p1, p2, p3⟩ := net_parts hN
    refine ⟨by rw [fuelC]; simp; omega, ?_⟩
    rw [show roundTK C (mkTab sp50 lp50 sw50) 50 (loopOf C.P 50 17) 0 l50_17 [to, m, m', hh, k, r', q, j, n', r, a, x] = _ from t50_17 to m m' hh k r' q j n' r a x]
    obtain ⟨i, hi⟩ : ∃ i : Nat, j.I = i := ⟨j.I.toNat, by omega⟩
    have hnn : (n'.I.toNat : Int) = n'.I := by omega
    simp only [hi, hm, hm', hr, hq, hnn, Int.toNat_natCast, Nat.reduceAdd, ix_def, lx_def, ix_rg, upd1, rs_def] at h hj0 hj1 ⊢
    refine rd_if (fun hlt => ?_) fun hge => ?_
    · have hR := p3 i (by omega)
      obtain ⟨q1, q2, q3, q4, q5⟩ := road_parts hR
      obtain ⟨e1, e2, e3⟩ := entW_parts hR
      obtain ⟨o1, o2⟩ := road_okC hR
      have hx' := ex_ok hR hk0 ha hx
      have hal := ha.1
      have hxl := hx.1
      have hat := ha.2 (ix (r.L.getD i []) 0).toNat
      have h6 := e1 (rg a.L (ix (r.L.getD i []) 0).toNat)
      have h7 := e2 (rg a.L (ix (r.L.getD i []) 0).toNat)
      rw [show r.L.length - i = (r.L.length - (i + 1)) + 1 by omega] at h
      simp only [exF] at h
      have key : ∀ y, ex1 (r.L.getD i []) a.L x.L = y → (G50_17 [.i to.I, .i n'.I, .i n'.I, .i hh.I, .i k.I, .l r.L, .i r.L.length, .i ((i + 1 : Nat) : Int), .i n'.I, .l r.L, .l a.L, .l y]).run = some rr := fun y e => by
        rw [e] at h hx'
        exact (need_yes ⟨hN, rfl, rfl, rfl, rfl, ha, hx', hk0, hk1, by simp only [I_i]; omega, by simp only [I_i, L_l]; omega⟩).trans h
      have hmu : ((r.L.length : Int) - ((i + 1 : Nat) : Int)).toNat < (q.I - j.I).toNat := by rw [hi, hq]; omega
      have f1 : ¬ rg a.L (ix (r.L.getD i []) 0).toNat < 9223372036854775807 → ex1 (r.L.getD i []) a.L x.L = x.L := fun c => if_neg c
      have f2 : rg a.L (ix (r.L.getD i []) 0).toNat < 9223372036854775807 → ex1 (r.L.getD i []) a.L x.L = rs x.L (ix (r.L.getD i []) 1).toNat (if entW (r.L.getD i []) (rg a.L (ix (r.L.getD i []) 0).toNat) + ix (r.L.getD i []) 2 < rg x.L (ix (r.L.getD i []) 1).toNat then entW (r.L.getD i []) (rg a.L (ix (r.L.getD i []) 0).toNat) + ix (r.L.getD i []) 2 else rg x.L (ix (r.L.getD i []) 1).toNat) := fun c => if_pos c
      unfold entW at f2 h6 h7
      rw [wrap_succ (by omega)]
      refine rd_dec (by omega) (rd_dec q1 (rd_dec (by have := q1.2; show (ix (r.L.getD i []) 0).toNat < a.L.length; omega) (rd_if (fun c1 => ?_) fun c1 => rd_again (key _ (f1 c1)) hmu)))
      have c1' : rg a.L (ix (r.L.getD i []) 0).toNat < 9223372036854775807 := c1
      refine rd_dec (by omega) (rd_dec (by omega) (rd_dec q1 (rd_dec (by show (ix (r.L.getD i []) 0).toNat < a.L.length; omega) (rd_yes ⟨o1, by show okS (rg a.L (ix (r.L.getD i []) 0).toNat); unfold okS; omega, o2⟩ (rd_dec (by omega) (rd_dec (by omega) (rd_again (key _ ?_) hmu)))))))
      rw [f2 c1']
      have hw : IntKind.i64.wrap (entF (lx (r.L.getD i []) 3) (ix (r.L.getD i []) 2) 0 (lx (r.L.getD i []) 3).length (rg a.L (ix (r.L.getD i []) 0).toNat) + ix (r.L.getD i []) 2) = entF (lx (r.L.getD i []) 3) (ix (r.L.getD i []) 2) 0 (lx (r.L.getD i []) 3).length (rg a.L (ix (r.L.getD i []) 0).toNat) + ix (r.L.getD i []) 2 := wrap_id (by omega) (by omega)
      simp only [ix_rg] at hw ⊢
      rw [hw]
      rfl
    · rw [show r.L.length - i = 0 by omega] at h
      exact rd_out h
  · cases h
theorem exs_ok {n k : Int} {r a : List (List D)} (hN : netB n r = true) (hk : 0 ≤ k) (ha : okEx n k a) : ∀ (m i : Nat) (x : List (List D)), i + m ≤ r.length → okEx n (k + 1) x → okEx n (k + 1) (exF r a i m x)
  | 0, _, _, _, h => h
  | m + 1, i, _, hm, h => exs_ok hN hk ha m (i + 1) _ (by omega) (ex_ok ((net_parts hN).2.2 i (by omega)) hk ha h)
theorem none_ok {n k : Int} (hn : 0 ≤ n) (hk : 0 ≤ k) : okEx n k (noneL n) := by
  unfold noneL
  refine ⟨by simp; omega, fun u => ?_⟩
  by_cases hu : u < n.toNat
  · rw [rg_rep hu]; omega
  · rw [rg_ge (by simp; omega)]; omega
theorem ok50_9 (n : Nat) : LoopSim C (n + 1) 50 (loopOf C.P 50 9) (mkL l50_9 G50_9) := by
  have hby : Try.prog.types[3].bytes = 8 := by kernel_rfl
  refine loop_ofK hC (sp := sp50) (lp := lp50) (sw := sw50) ⟨ok51 n, trivial⟩ trivial 0 [12, 17] (by kernel_rfl) (by kernel_rfl) (fun k hk L hL => by
    simp at hk; rcases hk with rfl | rfl <;> cases hL
    · exact ok50_12 n
    · exact ok50_17 n) (by kernel_rfl) (fun ds => ((ds.getD 2 default).I - (ds.getD 3 default).I).toNat) fun ds rr h => ?_
  unfold G50_9 at h
  split at h
  · rename_i to m hh k n' r a
    obtain ⟨hp, h⟩ := need_some h
    rw [yes_iff] at hp
    obtain ⟨hN, hm, ha, hk0, hk1, hk2⟩ := hp
    obtain ⟨p1, p2, p3⟩ := net_parts hN
    refine ⟨by rw [fuelC]; simp; omega, ?_⟩
    rw [show roundTK C (mkTab sp50 lp50 sw50) 50 (loopOf C.P 50 9) 0 l50_9 [to, m, hh, k, n', r, a] = _ from t50_9 to m hh k n' r a]
    obtain ⟨j, hj⟩ : ∃ j : Nat, k.I = j := ⟨k.I.toNat, by omega⟩
    have hn : (n'.I.toNat : Int) = n'.I := by omega
    have hal := ha.1
    have hno := none_ok (n := n'.I) (k := k.I + 1) (by omega) (by omega)
    have hho := exs_ok hN hk0 ha r.L.length 0 (noneL n'.I) (by omega) hno
    unfold noneL at hno hho
    simp only [hj, hm, hn, fill_all, List.length_replicate, Int.toNat_natCast, Int.toNat_zero, Nat.sub_zero] at h hk0 hk1 ha hno hho ⊢
    refine rd_if (fun hlt => ?_) fun hge => ?_
    · rw [wrap_succ (by omega)]
      rw [show hh.I.toNat - j = (hh.I.toNat - (j + 1)) + 1 by omega] at h
      refine rd_dec ⟨by omega, trivial, by omega, by rw [hby]; omega⟩ (rd_yes ⟨p1, trivial, trivial, trivial, hal, trivial, by omega, by omega⟩ (rd_yes ⟨hN, trivial, trivial, trivial, trivial, ha, hno, by omega, by omega, by omega, by omega⟩ (rd_again ((need_yes ⟨hN, rfl, hho, by simp only [I_i]; omega, by simp only [I_i]; omega, hk2⟩).trans h) ?_)))
      show (hh.I - ((j + 1 : Nat) : Int)).toNat < (hh.I - k.I).toNat
      rw [hj]; omega
    · rw [show hh.I.toNat - j = 0 by omega] at h
      exact rd_out h
  · cases h
theorem startE_ok {n v t : Int} (hn : 0 ≤ n) (hv : 0 ≤ v ∧ v < n) (ht : 0 ≤ t ∧ t ≤ 1099511627776) : okEx n 0 (startE n v t) := by
  have h := none_ok (n := n) (k := 0) hn (by omega)
  have hl := h.1
  unfold startE
  refine ⟨by rw [len_rs]; exact h.1, fun u => ?_⟩
  rw [rg_rs (by omega)]
  split
  · omega
  · exact h.2 u
theorem exact_ok {n : Int} {r : List (List D)} (hN : netB n r = true) (hn : 0 ≤ n) : ∀ (m : Nat) (k : Int) (a : List (List D)), 0 ≤ k → okEx n k a → okEx n (k + m) (exactF n r m a)
  | 0, k, a, _, h => by simpa [exactF] using h
  | m + 1, k, a, hk, h => by
    have := exact_ok hN hn m (k + 1) (exF r a 0 r.length (noneL n)) (by omega) (exs_ok hN hk h r.length 0 _ (by omega) (none_ok hn (by omega)))
    rw [show k + ((m + 1 : Nat) : Int) = k + 1 + m by omega]
    exact this
theorem ok50 (n : Nat) : FnOK C (n + 2) 50 (mkF s50 G50) := by
  have hby : Try.prog.types[3].bytes = 8 := by kernel_rfl
  refine fn_ofS hC (sp := sp50) (lp := lp50) (sw := sw50) ⟨ok51 n, trivial⟩ trivial (by kernel_rfl) [3, 9] (by kernel_rfl) (by kernel_rfl) (fun k hk L hL => by
    simp at hk; rcases hk with rfl | rfl <;> cases hL
    · exact ok50_3 n
    · exact ok50_9 n) fun ds r h => ?_
  unfold G50 at h
  split at h
  · rename_i n' r' v t to hh
    obtain ⟨hp, h⟩ := need_some h
    rw [yes_iff] at hp
    obtain ⟨hN, hv, ht, hto, hh0, hh1⟩ := hp
    obtain ⟨p1, p2, p3⟩ := net_parts hN
    refine (congrArg T.run (t50 n' r' v t to hh)).trans ?_
    have hn : (n'.I.toNat : Int) = n'.I := by omega
    have hok := startE_ok (by omega : 0 ≤ n'.I) hv ht
    have hex := (exact_ok hN (by omega) hh.I.toNat 0 _ (Int.le_refl _) hok).1
    unfold startE noneL at h hok hex
    simp only [List.length_replicate, Int.toNat_zero, Nat.sub_zero, fill_all, upd1, rs_def, hn]
    exact go_dec ⟨by omega, trivial, by omega, by rw [hby]; omega⟩ (go_yes ⟨p1, trivial, trivial, trivial, by omega, by omega⟩ (go_dec (by omega) (go_dec (by simp; omega) (go_yes ⟨hN, trivial, hok, by omega, by omega, by omega⟩ (go_dec (by omega) (go_dec (by omega) h))))))
  · cases h
end Go.Proofs.Ytgmefblkmidglaa
