/-
  The program's ways and the document's compute what their words say.
-/
import Derived.Test.YtgmefblkmidglaaResWayB
import Derived.Test.YtgmefblkmidglaaResTreeF
namespace Go.Proofs.Ytgmefblkmidglaa
open Go.Lite
set_option maxRecDepth 100000
theorem roundTK_head {C : Cfg} {tab : Tab} {f : FuncId} {b : Code} {k : Nat} {s : LSig} {j : D} {n : Int} {r : List D} (h : j.I = n) (hs : 2 ≤ s.head.length) : roundTK C tab f b k s (j :: r) = roundTK C tab f b k s (.i n :: r) := by
  obtain ⟨live, head, exits⟩ := s
  match head, hs with
  | a :: b :: c, _ => simp only [roundTK, roundTG, headL, headA, List.headD_cons, List.tail_cons, I_i, h]
section
variable {n : Int} {r : List (List D)} {q : Nat → Int → Int → Bool} {l : Nat} {v t to best left : Int} {i : Nat}
theorem pick_hit (hi : i < r.length) (hv : ix (r.getD i []) 0 = v) (hq : q l (toR r i) (tmR r i t) = true) : pickB r q l v t i (r.length - i) = true ∧ pickI r q l v t i (r.length - i) = i := by
  have h : pickF r q l v t i (r.length - i) = some i := by
    rw [show r.length - i = (r.length - (i + 1)) + 1 by omega]
    unfold pickF
    simp only [roadF]
    rw [if_pos]
    rw [Bool.and_eq_true, decide_eq_true_iff]
    exact ⟨hv, hq⟩
  unfold pickB pickI
  rw [h]
  exact ⟨rfl, rfl⟩
theorem pick_miss (hi : i < r.length) (h : ix (r.getD i []) 0 = v → q l (toR r i) (tmR r i t) = false) : pickB r q l v t i (r.length - i) = pickB r q l v t (i + 1) (r.length - (i + 1)) ∧ pickI r q l v t i (r.length - i) = pickI r q l v t (i + 1) (r.length - (i + 1)) := by
  have h : pickF r q l v t i (r.length - i) = pickF r q l v t (i + 1) (r.length - (i + 1)) := by
    rw [show r.length - i = (r.length - (i + 1)) + 1 by omega]
    unfold pickF
    simp only [roadF]
    rw [if_neg]
    rw [Bool.and_eq_true, decide_eq_true_iff]
    rintro ⟨h1, h2⟩
    have h3 := h h1
    unfold toR tmR at h3
    rw [h3] at h2
    cases h2
  unfold pickB pickI
  rw [h]
  exact ⟨rfl, rfl⟩
theorem pick_some {m : Nat} (h : pickB r q l v t 0 m = true) : pickI r q l v t 0 m < m ∧ pickF r q l v t 0 m = some (pickI r q l v t 0 m) := by
  unfold pickB at h
  unfold pickI
  obtain ⟨x, hx⟩ := Option.isSome_iff_exists.1 h
  rw [hx]
  have := road_some _ _ hx
  exact ⟨by simp only [Option.getD_some]; omega, rfl⟩
theorem way_step (h : pickB r q l v t 0 r.length = true) : wayF r q (l + 1) v t = hopR r (pickI r q l v t 0 r.length) t :: wayF r q l (toR r (pickI r q l v t 0 r.length)) (tmR r (pickI r q l v t 0 r.length) t) := by
  obtain ⟨-, h2⟩ := pick_some h
  unfold pickF at h2
  simp only [wayF]
  rw [h2]
  rfl
theorem way_none (h : pickB r q l v t 0 r.length = false) : wayF r q (l + 1) v t = wayF r q l v t := by
  unfold pickB pickF at h
  simp only [wayF]
  split
  · rfl
  · rename_i i hi
    rw [hi] at h
    cases h
theorem okWay_next (h : okWay n (left + 1) v t to r) (hl : 0 ≤ left) (hi : i < r.length) : okWay n left (toR r i) (tmR r i t) to r := by
  obtain ⟨hN, h1, h2, h3, h4⟩ := h
  have hR := (net_parts hN).2.2 i hi
  have e1 := (road_parts hR).2.1
  have e2 := (road_parts hR).2.2.1
  have e3 := (entW_parts hR).1 t
  have e4 := (entW_parts hR).2.1 t
  refine ⟨hN, by omega, e1, ?_, h4⟩
  unfold tmR
  omega
theorem okWay_less (h : okWay n (left + 1) v t to r) (hl : 0 ≤ left) : okWay n left v t to r := by
  obtain ⟨hN, h1, h2, h3, h4⟩ := h
  exact ⟨hN, by omega, h2, by omega, h4⟩
end
section
variable {p : Nat → Bool} {k : Nat}
theorem seek_go (h : ∃ l, k ≤ l ∧ l ≤ 1000 ∧ p l = true) : (p k = true → seekF p (1000 - k) k = k) ∧ (p k = false → k < 1000 ∧ (∃ l, k + 1 ≤ l ∧ l ≤ 1000 ∧ p l = true) ∧ seekF p (1000 - k) k = seekF p (1000 - (k + 1)) (k + 1)) := by
  obtain ⟨l, h1, h2, h3⟩ := h
  refine ⟨fun hp => ?_, fun hp => ?_⟩
  · match hm : 1000 - k with
    | 0 => rfl
    | m + 1 => simp only [seekF, hp, if_true]
  · have : l ≠ k := fun e => by rw [e, hp] at h3; cases h3
    refine ⟨by omega, ⟨l, by omega, h2, h3⟩, ?_⟩
    rw [show 1000 - k = (1000 - (k + 1)) + 1 by omega]
    simp only [seekF, hp, Bool.false_eq_true, if_false]
end
theorem tm_wrap {n : Int} {r : List (List D)} {i : Nat} {t : Int} (hN : netB n r = true) (hi : i < r.length) (ht : 0 ≤ t ∧ t ≤ 10100000) :
    IntKind.i64.wrap (entF (lx (r.getD i []) 3) (ix (r.getD i []) 2) 0 (lx (r.getD i []) 3).length t + ix (r.getD i []) 2) = tmR r i t ∧ t < tmR r i t ∧ tmR r i t ≤ 10120000 := by
  have hR := (net_parts hN).2.2 i hi
  have e2 := (road_parts hR).2.2.1
  have e3 := (entW_parts hR).1 t
  have e4 := (entW_parts hR).2.1 t
  unfold tmR
  unfold entW at e3 e4 ⊢
  exact ⟨wrap_id (by omega) (by omega), by omega, by omega⟩
theorem ok23_8 (n : Nat) : LoopSim C (n + 6) 23 (loopOf C.P 23 8) (mkL l23_8 G23_8) := by
  refine loop_ofK hC (sp := sp23) (lp := lp23) (sw := sw23) ⟨ok18 (n + 4), ok45 (n + 5), ok46 n, ok50 (n + 4), ok51 (n + 5), trivial⟩ trivial 0 [] (by kernel_rfl) rfl (fun k hk => by cases hk) (by kernel_rfl) (fun ds => (1000 - (ds.getD 2 default).I).toNat) fun ds rr h => ?_
  unfold G23_8 at h
  split at h
  · rename_i to best left m r v t
    obtain ⟨hp, h⟩ := need_some h
    rw [yes_iff] at hp
    obtain ⟨hN, hl, hv, ht, hto, hc⟩ := hp
    refine ⟨by rw [fuelC]; simp; omega, ?_⟩
    rw [show roundTK C (mkTab sp23 lp23 sw23) 23 (loopOf C.P 23 8) 0 l23_8 [to, best, left, m, r, v, t] = _ from t23_8 to best left m r v t]
    obtain ⟨k, hk⟩ : ∃ k : Nat, left.I = k := ⟨left.I.toNat, by omega⟩
    simp only [hk, Int.toNat_natCast] at h hc hl ⊢
    obtain ⟨g1, g2⟩ := seek_go (p := fun l => qE m.I r.L to.I best.I l v.I t.I) hc
    unfold hopsE at h
    refine rd_yes ⟨hN, hv, by omega, hto, by omega, by omega⟩ (rd_ite (fun c => ?_) fun c => ?_)
    · obtain ⟨a1, a2, a3⟩ := g2 (by rw [bne_iff_ne] at c; unfold qE; exact beq_false_of_ne c)
      rw [a3] at h
      rw [wrap_succ (by omega)]
      refine rd_again ((need_yes ⟨hN, by simp only [I_i]; omega, hv, ht, hto, by simp only [I_i, Int.toNat_natCast]; exact a2⟩).trans ?_) (show (1000 - ((k + 1 : Nat) : Int)).toNat < (1000 - left.I).toNat by omega)
      simp only [I_i, L_l, Int.toNat_natCast]
      unfold hopsE
      exact h
    · have a1 := g1 (by unfold qE; simpa using c)
      rw [a1] at h
      exact rd_out h
  · cases h
theorem ok23_14 (n : Nat) : LoopSim C (n + 6) 23 (loopOf C.P 23 14) (mkL l23_14 G23_14) := by
  refine loop_ofK hC (sp := sp23) (lp := lp23) (sw := sw23) ⟨ok18 (n + 4), ok45 (n + 5), ok46 n, ok50 (n + 4), ok51 (n + 5), trivial⟩ trivial 0 [] (by kernel_rfl) rfl (fun k hk => by cases hk) (by kernel_rfl) (fun ds => if (ds.getD 0 default).I = 0 then ((ds.getD 5 default).I - (ds.getD 6 default).I).toNat else ((ds.getD 6 default).I - (ds.getD 7 default).I).toNat) fun ds rr h => ?_
  unfold G23_14 at h
  split at h
  · rename_i j to best left r' q i m r v t
    obtain ⟨hp, h⟩ := need_some h
    rw [yes_iff] at hp
    obtain ⟨hj, hW, hl0, hr, hq, hi0, hi1⟩ := hp
    have hW' := hW
    obtain ⟨hN, hl, hv, ht, hto⟩ := hW'
    obtain ⟨p1, p2, p3⟩ := net_parts hN
    refine ⟨by rw [fuelC]; simp [hj]; omega, ?_⟩
    rw [roundTK_head (j := j) (n := 0) hj (by decide), show roundTK C (mkTab sp23 lp23 sw23) 23 (loopOf C.P 23 14) 0 l23_14 [.i 0, to, best, left, r', q, i, m, r, v, t] = _ from t23_14_0 to best left r' q i m r v t]
    obtain ⟨k, hk⟩ : ∃ k : Nat, i.I = k := ⟨i.I.toNat, by omega⟩
    simp only [hk, hr, hq, Int.toNat_natCast, Nat.reduceAdd, ix_def, lx_def] at h hi1 ⊢
    refine rd_if (fun hlt => ?_) fun hge => ?_
    · have hkl : k < r.L.length := by omega
      have hR := p3 k hkl
      obtain ⟨q1, q2, q3, q4, q5⟩ := road_parts hR
      obtain ⟨o1, o2⟩ := road_okC hR
      obtain ⟨w1, w2, w3⟩ := tm_wrap hN hkl (t := t.I) (by omega)
      have hmiss : (ix (r.L.getD k []) 0 = v.I → qE m.I r.L to.I best.I left.I.toNat (toR r.L k) (tmR r.L k t.I) = false) → RdOK G23_14 (fun ds => if (ds.getD 0 default).I = 0 then ((ds.getD 5 default).I - (ds.getD 6 default).I).toNat else ((ds.getD 6 default).I - (ds.getD 7 default).I).toNat) [j, to, best, left, r', q, i, m, r, v, t] rr (T.leaf (Rd.again [.i 0, .i to.I, .i best.I, .i left.I, .l r.L, .i r.L.length, .i ((k + 1 : Nat) : Int), .i m.I, .l r.L, .i v.I, .i t.I])).run := fun hm => by
        obtain ⟨m1, m2⟩ := pick_miss (q := qE m.I r.L to.I best.I) (l := left.I.toNat) (v := v.I) (t := t.I) hkl hm
        rw [m1, m2] at h
        refine rd_again ((need_yes ⟨rfl, hW, hl0, rfl, rfl, by simp only [I_i]; omega, by simp only [I_i, L_l]; omega⟩).trans h) ?_
        simp only [List.getD_cons_zero, List.getD_cons_succ, I_i, hj, hq, hk, if_true]
        omega
      rw [wrap_succ (by omega), w1]
      refine rd_dec (by omega) (rd_ite (fun c1 => hmiss fun e => absurd e (by simpa using c1)) fun c1 => ?_)
      have c1 : ix (r.L.getD k []) 0 = v.I := by simpa using c1
      refine rd_yes ⟨o1, by unfold okS; omega, o2⟩ (rd_yes ⟨hN, q2, by omega, hto, by omega, by omega⟩ (rd_ite (fun c2 => ?_) fun c2 => hmiss fun _ => c2))
      obtain ⟨m1, m2⟩ := pick_hit (q := qE m.I r.L to.I best.I) (l := left.I.toNat) (v := v.I) (t := t.I) hkl c1 c2
      rw [m1, m2] at h
      exact rd_need rfl (rd_false rfl (rd_need rfl (rd_out h)))
    · rw [show r.L.length - k = 0 by omega] at h
      exact rd_out h
  · rename_i j to best left z r' q i m r v t o
    obtain ⟨hp, h⟩ := need_some h
    rw [yes_iff] at hp
    obtain ⟨hj, hW, hl0, hr, hq, hi, hz, hz1⟩ := hp
    have hby : Try.prog.types[40].bytes = 16 := by kernel_rfl
    have hW' := hW
    obtain ⟨hN, hl, hv, ht, hto⟩ := hW'
    obtain ⟨p1, p2, p3⟩ := net_parts hN
    refine ⟨by rw [fuelC]; simp [hj]; omega, ?_⟩
    rw [roundTK_head (j := j) (n := 1) hj (by decide), show roundTK C (mkTab sp23 lp23 sw23) 23 (loopOf C.P 23 14) 0 l23_14 [.i 1, to, best, left, z, r', q, i, m, r, v, t, o] = _ from t23_14_1 to best left z r' q i m r v t o]
    obtain ⟨k, hk⟩ : ∃ k : Nat, i.I = k := ⟨i.I.toNat, by omega⟩
    simp only [hk, hr, hq, hz, Int.toNat_natCast, Nat.reduceAdd, ix_def, lx_def] at h hi ⊢
    refine rd_if (fun hlt => ?_) fun hge => ?_
    · have hkl : k < r.L.length := by omega
      have hR := p3 k hkl
      obtain ⟨q1, q2, q3, q4, q5⟩ := road_parts hR
      obtain ⟨o1, o2⟩ := road_okC hR
      obtain ⟨w1, w2, w3⟩ := tm_wrap hN hkl (t := t.I) (by omega)
      have hmiss : (ix (r.L.getD k []) 0 = v.I → qE m.I r.L to.I best.I left.I.toNat (toR r.L k) (tmR r.L k t.I) = false) → RdOK G23_14 (fun ds => if (ds.getD 0 default).I = 0 then ((ds.getD 5 default).I - (ds.getD 6 default).I).toNat else ((ds.getD 6 default).I - (ds.getD 7 default).I).toNat) [j, to, best, left, z, r', q, i, m, r, v, t, o] rr (T.leaf (Rd.again [.i 1, .i to.I, .i best.I, .i left.I, .i o.L.length, .l r.L, .i r.L.length, .i ((k + 1 : Nat) : Int), .i m.I, .l r.L, .i v.I, .i t.I, .l o.L])).run := fun hm => by
        obtain ⟨m1, m2⟩ := pick_miss (q := qE m.I r.L to.I best.I) (l := left.I.toNat) (v := v.I) (t := t.I) hkl hm
        rw [m1, m2] at h
        refine rd_again ((need_yes ⟨rfl, hW, hl0, rfl, rfl, by simp only [I_i, L_l]; omega, rfl, by simp only [I_i]; omega⟩).trans h) ?_
        simp only [List.getD_cons_zero, List.getD_cons_succ, I_i, hj, hq, hk]
        rw [if_neg (by omega), if_neg (by omega)]
        omega
      rw [wrap_succ (by omega), w1]
      refine rd_dec (by omega) (rd_ite (fun c1 => hmiss fun e => absurd e (by simpa using c1)) fun c1 => ?_)
      have c1 : ix (r.L.getD k []) 0 = v.I := by simpa using c1
      refine rd_yes ⟨o1, by unfold okS; omega, o2⟩ (rd_yes ⟨hN, q2, by omega, hto, by omega, by omega⟩ (rd_ite (fun c2 => ?_) fun c2 => hmiss fun _ => c2))
      obtain ⟨m1, m2⟩ := pick_hit (q := qE m.I r.L to.I best.I) (l := left.I.toNat) (v := v.I) (t := t.I) hkl c1 c2
      rw [m1, m2] at h
      simp only [List.take_length]
      simp only [List.length_cons, List.length_nil, Nat.zero_add]
      exact rd_need rfl (rd_false rfl (rd_dec (by rw [hby]; omega) (rd_out h)))
    · rw [show r.L.length - k = 0 by omega] at h
      exact rd_out h
  · cases h
theorem ok23_11 (n : Nat) : LoopSim C (n + 6) 23 (loopOf C.P 23 11) (mkL l23_11 G23_11) := by
  refine loop_ofK hC (sp := sp23) (lp := lp23) (sw := sw23) ⟨ok18 (n + 4), ok45 (n + 5), ok46 n, ok50 (n + 4), ok51 (n + 5), trivial⟩ trivial 0 [14] (by kernel_rfl) (by kernel_rfl) (fun k hk L hL => by simp at hk; subst hk; cases hL; exact ok23_14 n) (by kernel_rfl) (fun ds => (ds.getD 3 default).I.toNat) fun ds rr h => ?_
  unfold G23_11 wayE at h
  split at h
  · rename_i j to best left m r v t
    obtain ⟨hp, h⟩ := need_some h
    rw [yes_iff] at hp
    obtain ⟨hj, hW⟩ := hp
    have hl := hW.2.1
    refine ⟨by rw [fuelC]; simp; omega, ?_⟩
    rw [roundTK_head (j := j) (n := 0) hj (by decide), show roundTK C (mkTab sp23 lp23 sw23) 23 (loopOf C.P 23 11) 0 l23_11 [.i 0, to, best, left, m, r, v, t] = _ from t23_11_0 to best left m r v t]
    refine rd_if (fun hlt => ?_) fun hge => ?_
    · obtain ⟨k, hk⟩ : ∃ k : Nat, left.I = ((k + 1 : Nat) : Int) := ⟨left.I.toNat - 1, by omega⟩
      have hw : IntKind.i64.wrap (left.I - 1) = (k : Int) := by rw [hk, wrap_pred (by omega)]; omega
      have hW1 : okWay m.I ((k : Int) + 1) v.I t.I to.I r.L := by rw [hk] at hW; exact hW
      rw [hw]
      rw [hk] at h
      simp only [Int.toNat_natCast, Int.toNat_zero, Nat.sub_zero] at h ⊢
      refine rd_yes ⟨trivial, hW1, by omega, trivial, trivial, by omega, by omega⟩ (rd_ite (fun c => ?_) fun c => ?_)
      · rw [way_step c] at h
        refine rd_again ((need_yes ⟨rfl, okWay_next hW1 (show (0 : Int) ≤ (k : Int) by omega) (pick_some c).1, rfl, by simp only [I_i]; omega, by simp only [I_i]; omega⟩).trans h) (show ((k : Nat) : Int).toNat < left.I.toNat by omega)
      · rw [way_none c] at h
        exact rd_again ((need_yes ⟨rfl, okWay_less hW1 (show (0 : Int) ≤ (k : Int) by omega)⟩).trans h) (show ((k : Nat) : Int).toNat < left.I.toNat by omega)
    · rw [show left.I.toNat = 0 by omega] at h
      exact rd_out h
  · rename_i j to best left z m r v t o
    obtain ⟨hp, h⟩ := need_some h
    rw [yes_iff] at hp
    obtain ⟨hj, hW, hz, hz1, hz2⟩ := hp
    have hl := hW.2.1
    refine ⟨by rw [fuelC]; simp; omega, ?_⟩
    rw [roundTK_head (j := j) (n := 1) hj (by decide), show roundTK C (mkTab sp23 lp23 sw23) 23 (loopOf C.P 23 11) 0 l23_11 [.i 1, to, best, left, z, m, r, v, t, o] = _ from t23_11_1 to best left z m r v t o]
    refine rd_if (fun hlt => ?_) fun hge => ?_
    · obtain ⟨k, hk⟩ : ∃ k : Nat, left.I = ((k + 1 : Nat) : Int) := ⟨left.I.toNat - 1, by omega⟩
      have hw : IntKind.i64.wrap (left.I - 1) = (k : Int) := by rw [hk, wrap_pred (by omega)]; omega
      have hW1 : okWay m.I ((k : Int) + 1) v.I t.I to.I r.L := by rw [hk] at hW; exact hW
      rw [hw]
      rw [hk] at h
      simp only [hz, Int.toNat_natCast, Int.toNat_zero, Nat.sub_zero] at h ⊢
      refine rd_yes ⟨rfl, hW1, by omega, trivial, trivial, ⟨by omega, by omega⟩, trivial, by omega⟩ (rd_ite (fun c => ?_) fun c => ?_)
      · rw [way_step c] at h
        refine rd_again ((need_yes ⟨rfl, okWay_next hW1 (show (0 : Int) ≤ (k : Int) by omega) (pick_some c).1, by simp only [I_i, L_l, List.length_append, List.length_cons, List.length_nil], by simp only [I_i]; omega, by simp only [I_i]; omega⟩).trans ?_) (show ((k : Nat) : Int).toNat < left.I.toNat by omega)
        simp only [I_i, L_l, Int.toNat_natCast, List.append_assoc, List.cons_append, List.nil_append]
        exact h
      · rw [way_none c] at h
        exact rd_again ((need_yes ⟨rfl, okWay_less hW1 (show (0 : Int) ≤ (k : Int) by omega), rfl, by simp only [I_i]; omega, by simp only [I_i]; omega⟩).trans h) (show ((k : Nat) : Int).toNat < left.I.toNat by omega)
    · rw [show left.I.toNat = 0 by omega] at h
      simp only [wayF, List.append_nil] at h
      rw [hz]
      exact rd_out h
  · cases h
theorem node0_iff {n v : Int} : nodeB n v 0 = true ↔ 0 ≤ v ∧ v < n := by
  unfold nodeB
  rw [decide_eq_true_iff]
  omega
theorem ok23 (n : Nat) : FnOK C (n + 7) 23 (mkF s23 G23) := by
  refine fn_ofS hC (sp := sp23) (lp := lp23) (sw := sw23) ⟨ok18 (n + 4), ok45 (n + 5), ok46 n, ok50 (n + 4), ok51 (n + 5), trivial⟩ trivial (by kernel_rfl) [8, 11] (by kernel_rfl) (by kernel_rfl) (fun k hk L hL => by
    simp at hk; rcases hk with rfl | rfl <;> cases hL
    · exact ok23_8 n
    · exact ok23_11 n) fun ds r h => ?_
  unfold G23 at h
  split at h
  · rename_i m r' v t to
    refine (congrArg T.run (t23 m r' v t to)).trans ?_
    rw [← h]
    cases hN : netB m.I r'.L with
    | false => exact go_true rfl rfl
    | true =>
      obtain ⟨p1, p2, p3⟩ := net_parts hN
      rw [Bool.true_and, wrap_id (by omega) (by omega)]
      refine go_false rfl ?_
      simp only [within_dec]
      have hO : ∀ b : Bool, (nodeB m.I v.I t.I && nodeB m.I to.I 0) = b → (nodeB m.I v.I t.I && nodeB m.I to.I 0) = b := fun _ e => e
      refine go_not (fun c1 => ?_) fun c1 => go_not (fun c2 => ?_) fun c2 => go_not (fun c3 => ?_) fun c3 => ?_
      · have c1 := of_decide_eq_false c1
        rw [show nodeB m.I v.I t.I = false from decide_eq_false (by omega)]
        rfl
      · have c2 := of_decide_eq_false c2
        rw [show nodeB m.I to.I 0 = false from decide_eq_false (by omega), Bool.and_false]
        rfl
      · have c3 := of_decide_eq_false c3
        rw [show nodeB m.I v.I t.I = false from decide_eq_false (by omega)]
        rfl
      · have c1 := of_decide_eq_true c1
        have c2 := of_decide_eq_true c2
        have c3 := of_decide_eq_true c3
        rw [show nodeB m.I v.I t.I = true from node_iff.2 (by omega), show nodeB m.I to.I 0 = true from node0_iff.2 (by omega)]
        have hh := (search_ends hN (v := v.I) (t := t.I) (by omega) (by omega) (by omega)).1
        obtain ⟨⟨a1, -⟩, -⟩ := arr_ok hN (v := v.I) (t := t.I) (by omega) (by omega)
        simp only [Int.toNat_zero, Int.toNat_natCast, rg_def]
        refine go_yes ⟨by omega, by omega, by omega, by omega, hh⟩ (go_dec (by omega) (go_dec (by omega) ?_))
        show T.run _ = (T.ite (decide (bestF m.I r'.L v.I t.I to.I < 0)) _ _).run
        refine go_if (fun c4 => ?_) fun c4 => ?_
        · have c4 : bestF m.I r'.L v.I t.I to.I < 0 := c4
          rw [decide_eq_true c4]
          rfl
        · have c4 : ¬ bestF m.I r'.L v.I t.I to.I < 0 := c4
          rw [decide_eq_false c4]
          obtain ⟨b1, b2, b3, b4, b5⟩ := ways_same hN (v := v.I) (t := t.I) (to := to.I) (by omega) (by omega) (by omega) (by omega)
          refine go_yes ⟨trivial, by omega, by omega, by omega, by omega, b2⟩ (go_yes ⟨trivial, hN, ⟨by omega, by exact_mod_cast b5⟩, by omega, ⟨by omega, ?_⟩, by omega⟩ rfl)
          have : (hopsE m.I r'.L v.I t.I to.I (rg (arrF m.I r'.L v.I t.I) to.I.toNat) 0 : Int) ≤ 1000 := by exact_mod_cast b5
          omega
  · cases h
end Go.Proofs.Ytgmefblkmidglaa
