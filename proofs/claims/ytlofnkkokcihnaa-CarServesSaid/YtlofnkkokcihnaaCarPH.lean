/-
  The document's search of the least fuel computes what its words say.
-/
import Derived.Test.YtlofnkkokcihnaaCarPG
namespace Go.Proofs.Ytlofnkkokcihnaa
open Go.Lite

theorem room_le {l : List (List D)} {A : List Int} {t : Int} {k i : Nat} : ∀ (n j : Nat) (room high : Int), roomFrom l A t k i j n room high ≤ room
  | 0, j, room, high => by simp only [roomFrom]; omega
  | n + 1, j, room, high => by
    simp only [roomFrom]
    refine Int.le_trans (room_le n _ _ _) ?_
    split
    · omega
    · omega
theorem min_if (a b : Int) : (if b < a then b else a) = min a b := by
  rw [Int.min_def]
  by_cases h : b < a
  · rw [if_pos h, if_neg (by omega)]
  · rw [if_neg h, if_pos (by omega)]
theorem ok27_11 (n : Nat) : LoopSim C (n + 2) 27 (loopOf C.P 27 11) (mkL l27_11 G27_11) := by
  refine loop_of hC (sp := sp27) (lp := lp27) ⟨ok33 n, trivial⟩ [16] (by kernel_rfl) (by kernel_rfl) (fun k hk L hL => by
    simp only [List.mem_cons, List.not_mem_nil, or_false] at hk
    subst hk; cases hL
    exact ok27_16 n) (by kernel_rfl) (fun ds => ((ds.getD 7 default).I + 2).toNat) fun ds rr h => ?_
  unfold G27_11 at h
  split at h
  · rename_i t r s l m i w k row
    obtain ⟨hp, h⟩ := need_some h
    rw [yes_iff] at hp
    obtain ⟨h1, h2, h3, h4, h5, h6, h7, h8, h9, h10⟩ := hp
    obtain ⟨t1, t2, t3, t4, t5⟩ := tank_of h1
    refine ⟨by rw [fuelC]; simp; omega, ?_⟩
    rw [show roundT C (mkTab sp27 lp27) 27 (loopOf C.P 27 11) l27_11 [t, r, s, l, m, i, w, k, row] = _ from t27_11 t r s l m i w k row]
    obtain ⟨y, hy⟩ : ∃ y : Nat, i.I = y := ⟨i.I.toNat, by omega⟩
    generalize hA : ints row.L = A at *
    rw [h9]
    have hlen : (mkI A).length = l.L.length := by rw [len_mkI, h10.1]
    simp only [hy, h2, Int.toNat_natCast, ix_def, Nat.zero_add, Nat.reduceAdd, ix_mkI, upd1, Int.toNat_zero, Nat.sub_zero, set_mkI] at h ⊢
    refine rd_if (fun hge => rd_if (fun hlow => ?_) fun hlow => ?_) fun hge => ?_
    · obtain ⟨x, hx⟩ : ∃ x : Nat, k.I = x := ⟨k.I.toNat, by omega⟩
      simp only [hx, Int.toNat_natCast] at h ⊢
      have hxl : x < l.L.length := by omega
      have b1 := h10.2 x hxl
      have b2 := t5 x hxl
      have e1 : fillOf l.L x = ix (l.L.getD x []) 2 := rfl
      have w1 : IntKind.i64.wrap (ix (l.L.getD x []) 2 - A.getD x 0) = fillOf l.L x - A.getD x 0 := wrap_id (by omega) (by omega)
      have w2 : IntKind.i64.wrap ((x : Int) - 1) = (x : Int) - 1 := wrap_id (by omega) (by omega)
      have w3 : IntKind.i64.wrap (r.I - w.I) = r.I - w.I := wrap_id (by omega) (by omega)
      have er : roomFrom l.L A t.I x y 0 l.L.length (fillOf l.L x - A.getD x 0) s.I = roomAt l.L A t.I s.I x y := rfl
      rw [w1, w2, w3, er, min_if]
      have hroom : roomAt l.L A t.I s.I x y ≤ fillOf l.L x - A.getD x 0 := room_le _ _ _ _
      rw [show ((x : Int) + 1).toNat = x + 1 by omega] at h
      simp only [fillFrom, if_pos hlow] at h
      have hμ : ((x : Int) - 1 + 2).toNat < (k.I + 2).toNat := by omega
      refine rd_dec ⟨by omega, by omega⟩ (rd_dec ⟨by omega, by omega⟩ (rd_dec (by omega) (rd_yes ⟨h1, by trivial, by omega, by omega, by omega, by omega, by omega, by omega, by omega, by omega, by trivial, h10⟩ (rd_if (fun c => ?_) fun c => ?_))))
      · rw [if_pos c] at h
        have w4 : IntKind.i64.wrap (w.I + min (roomAt l.L A t.I s.I x y) (r.I - w.I)) = w.I + min (roomAt l.L A t.I s.I x y) (r.I - w.I) := wrap_id (by omega) (by omega)
        have w5 : IntKind.i64.wrap (A.getD x 0 + min (roomAt l.L A t.I s.I x y) (r.I - w.I)) = A.getD x 0 + min (roomAt l.L A t.I s.I x y) (r.I - w.I) := wrap_id (by omega) (by omega)
        rw [w4, w5]
        have hA' := amts_set h10 (k := x) (v := A.getD x 0 + min (roomAt l.L A t.I s.I x y) (r.I - w.I)) ⟨by omega, by omega⟩
        refine rd_dec ⟨by omega, by omega⟩ (rd_dec (by omega) (rd_dec ⟨by omega, by omega⟩ (rd_dec (by omega) (rd_again ?_ hμ))))
        refine (need_yes ⟨h1, rfl, by simp only [I_i]; omega, by simp only [I_i, L_l]; omega, by simp only [I_i]; omega, by simp only [I_i]; omega, by simp only [I_i]; omega, by simp only [I_i]; omega, by simp only [L_l, ints_mkI], by simp only [L_l, ints_mkI]; exact hA'⟩).trans ?_
        simp only [I_i, L_l, ints_mkI, Int.toNat_natCast]
        rw [show ((x : Int) - 1 + 1).toNat = x by omega]
        exact h
      · rw [if_neg c] at h
        refine rd_again ?_ hμ
        refine (need_yes ⟨h1, rfl, by simp only [I_i]; omega, by simp only [I_i, L_l]; omega, by simp only [I_i]; omega, by simp only [I_i]; omega, by simp only [I_i]; omega, by simp only [I_i]; omega, by simp only [L_l, ints_mkI], by simp only [L_l, ints_mkI]; exact h10⟩).trans ?_
        simp only [I_i, L_l, ints_mkI, Int.toNat_natCast]
        rw [show ((x : Int) - 1 + 1).toNat = x by omega]
        exact h
    · obtain ⟨x, hx⟩ : ∃ x : Nat, k.I = x := ⟨k.I.toNat, by omega⟩
      rw [hx, show ((x : Int) + 1).toNat = x + 1 by omega] at h
      simp only [fillFrom, if_neg hlow] at h
      exact rd_out h
    · rw [show (k.I + 1).toNat = 0 by omega] at h
      simp only [fillFrom] at h
      exact rd_out h
  · cases h
theorem low_rng {l : List (List D)} {A : List Int} (ha : amts l A) (hl : ∀ j, j < l.length → 0 ≤ mostOf l j ∧ mostOf l j ≤ 1000000 ∧ fillOf l j ≤ 1000000) : ∀ (n k : Nat) (w : Int), k + n ≤ l.length → w - 1000000 * n ≤ lowFrom l A k n w ∧ lowFrom l A k n w ≤ w + 1000000 * n
  | 0, k, w, _ => by simp [lowFrom]
  | n + 1, k, w, h => by
    have h1 := ha.2 k (by omega)
    have h2 := hl k (by omega)
    have h3 := low_rng ha hl n (k + 1) (w + A.getD k 0 - mostOf l k) (by omega)
    simp only [lowFrom]
    omega
theorem fill_amts {l : List (List D)} {t r s : Int} {i : Nat} : ∀ (k : Nat) (A : List Int) (w : Int), k ≤ l.length → amts l A → amts l (fillFrom l t r s i k A w).1
  | 0, A, w, _, h => h
  | k + 1, A, w, hk, h => by
    simp only [fillFrom]
    have h1 := h.2 k (by omega)
    have hroom : roomAt l A t s k i ≤ fillOf l k - A.getD k 0 := room_le _ _ _ _
    split
    · split
      · exact fill_amts k _ _ (by omega) (amts_set h ⟨by omega, by omega⟩)
      · exact fill_amts k _ _ (by omega) h
    · exact h
theorem ok27_3 (n : Nat) : LoopSim C (n + 2) 27 (loopOf C.P 27 3) (mkL l27_3 G27_3) := by
  refine loop_of hC (sp := sp27) (lp := lp27) ⟨ok33 n, trivial⟩ [7, 11] (by kernel_rfl) (by kernel_rfl) (fun k hk L hL => by
    simp only [List.mem_cons, List.not_mem_nil, or_false] at hk
    rcases hk with rfl | rfl <;> cases hL
    · exact ok27_7 n
    · exact ok27_11 n) (by kernel_rfl) (fun ds => (((ds.getD 3 default).L.length : Int) - (ds.getD 5 default).I).toNat) fun ds rr h => ?_
  unfold G27_3 at h
  split at h
  · rename_i t r s l m i row
    obtain ⟨hp, h⟩ := need_some h
    rw [yes_iff] at hp
    obtain ⟨h1, h2, h3, h4, h9, h10⟩ := hp
    obtain ⟨t1, t2, t3, t4, t5⟩ := tank_of h1
    refine ⟨by rw [fuelC]; simp; omega, ?_⟩
    rw [show roundT C (mkTab sp27 lp27) 27 (loopOf C.P 27 3) l27_3 [t, r, s, l, m, i, row] = _ from t27_3 t r s l m i row]
    obtain ⟨y, hy⟩ : ∃ y : Nat, i.I = y := ⟨i.I.toNat, by omega⟩
    generalize hA : ints row.L = A at *
    rw [h9]
    simp only [hy, h2, Int.toNat_natCast, Int.toNat_zero, Nat.sub_zero] at h ⊢
    refine rd_if (fun hlt => ?_) fun hge => ?_
    · have hyl : y < l.L.length := by omega
      have hlow := low_rng h10 (fun j hj => by have := t5 j hj; omega) (y + 1) 0 s.I (by omega)
      rw [show ((y : Int) + 1).toNat = y + 1 by omega]
      refine rd_yes ⟨h1, by trivial, by omega, by omega, by omega, by omega, by omega, by omega, by trivial, h10⟩ (rd_yes ⟨h1, by trivial, by omega, by omega, by omega, by omega, by omega, by omega, by trivial, h10⟩ ?_)
      rw [show l.L.length - y = (l.L.length - (y + 1)) + 1 by omega] at h
      simp only [searchFrom] at h
      have e1 : fillFrom l.L t.I r.I s.I y (y + 1) A (lowFrom l.L A 0 (y + 1) s.I) = fillAt l.L t.I r.I s.I A y := rfl
      rw [e1]
      refine rd_if (fun c => ?_) fun c => ?_
      · simp only [if_pos c] at h
        exact rd_out h
      · simp only [if_neg c] at h
        rw [wrap_succ (by omega)]
        refine rd_again ?_ ?_
        · refine (need_yes ⟨h1, rfl, by simp only [I_i]; omega, by simp only [I_i, L_l]; omega, by simp only [L_l, ints_mkI], by simp only [L_l, ints_mkI]; exact fill_amts _ _ _ (by omega) h10⟩).trans ?_
          simp only [I_i, L_l, ints_mkI, Int.toNat_natCast]
          exact h
        · show ((l.L.length : Int) - ((y + 1 : Nat) : Int)).toNat < ((l.L.length : Int) - i.I).toNat
          omega
    · rw [show l.L.length - y = 0 by omega] at h
      simp only [searchFrom] at h
      exact rd_out h
  · cases h
theorem search_amts {l : List (List D)} {t r s : Int} : ∀ (k i : Nat) (A : List Int), i + k ≤ l.length → amts l A → (searchFrom l t r s i k A).1 = true → amts l (searchFrom l t r s i k A).2
  | 0, i, A, _, h, _ => h
  | k + 1, i, A, hk, h, hs => by
    simp only [searchFrom] at hs ⊢
    split at hs
    · cases hs
    · rename_i c
      rw [if_neg c]
      exact search_amts k (i + 1) _ (by omega) (fill_amts _ _ _ (by omega) h) hs
theorem amts_zero {t r s : Int} {l : List (List D)} (h : tankP t r s l) : amts l (List.replicate l.length 0) := by
  obtain ⟨t1, t2, t3, t4, t5⟩ := tank_of h
  refine ⟨by simp, fun j hj => ?_⟩
  have := t5 j hj
  simp only [List.getD_eq_getElem?_getD, List.getElem?_replicate, if_pos hj, Option.getD_some]
  omega
theorem zero_mkI (n : Nat) : List.replicate n [D.i 0] = mkI (List.replicate n 0) := by simp [mkI]
set_option maxRecDepth 100000 in
theorem ok27 (n : Nat) : FnOK C (n + 3) 27 (mkF s27 G27) := by
  refine fn_of hC (sp := sp27) (lp := lp27) ⟨ok33 n, trivial⟩ (by kernel_rfl) [3] (by kernel_rfl) (by kernel_rfl) (fun k hk L hL => by
    simp only [List.mem_cons, List.not_mem_nil, or_false] at hk
    subst hk; cases hL
    exact ok27_3 n) fun ds rr h => ?_
  unfold G27 at h
  split at h
  · rename_i t r s l
    obtain ⟨hp, h⟩ := need_some h
    rw [yes_iff] at hp
    obtain ⟨t1, t2, t3, t4, t5⟩ := tank_of hp
    refine (congrArg T.run (t27 t r s l)).trans ?_
    have e0 : (mkI (List.replicate l.L.length 0)).length = l.L.length := by rw [len_mkI, List.length_replicate]
    have hz := amts_zero hp
    simp only [Int.toNat_natCast, Int.toNat_zero, zero_mkI, ints_mkI, e0, Nat.sub_zero]
    have es : searchFrom l.L t.I r.I s.I 0 l.L.length (List.replicate l.L.length 0) = searchAll l.L t.I r.I s.I := rfl
    rw [es]
    refine go_dec ⟨by omega, by trivial, by omega, by rw [bytes3]; omega⟩ (go_yes ⟨hp, by trivial, by omega, by omega, by trivial, hz⟩ (go_ite (fun hc => ?_) (fun hc => ?_)))
    · rw [run_ite, hc] at h
      have ha := search_amts l.L.length 0 _ (by omega) hz hc
      have e1 : (mkI (searchAll l.L t.I r.I s.I).2).length = l.L.length := by rw [len_mkI]; exact ha.1
      have e2 : (mkI (searchAll l.L t.I r.I s.I).2).take l.L.length = mkI (searchAll l.L t.I r.I s.I).2 := List.take_of_length_le (by omega)
      rw [e2, e1]
      have hp' := hp
      simp only [tankP, tankOk, Bool.and_eq_true, decide_eq_true_eq] at hp'
      refine go_dec (by omega) (go_yes ⟨by omega, by omega, t4, hp'.2, by unfold bounds; omega⟩ ?_)
      simpa using h
    · rw [run_ite, hc] at h
      exact h
  · cases h
end Go.Proofs.Ytlofnkkokcihnaa
