/-
  The statement of TimetableEarliest follows once the law is reckoned to be true for arguments of the right shapes.
  Rows of times and the plain theory: what raising ends with.
  The law of earliest timetables holds for every input.
-/
import Derived.Test.YtipbcpobnciccaaOver
import Derived.Test.YtipbcpobnciccaaTimGD
import Derived.Test.YtipbcpobnciccaaTimNet
import Derived.Test.YtipbcpobnciccaaTimGE
namespace Go.Proofs.Ytipbcpobnciccaa
open Go.Lite Go.ChangeShapes Go.WideShapes Go.ChangeAt Go.RowKit

def timetableEarliestLaw : Prop := ∀ xs : List AV, ArgsShape Try.prog 12 [3, 22] xs → ∃ n h', callA C n Unit none 6 xs [] () = some (.bool true, h', ())
theorem timetableEarliest_plain : ∀ t ∈ [3, 22], plainTy Try.prog 12 t = true := by
  intro t ht
  have h : [3, 22].all (plainTy Try.prog 12) = true := by kernel_rfl
  exact List.all_eq_true.1 h t ht
set_option maxRecDepth 100000 in
theorem timetableEarliest_lifted (law : timetableEarliestLaw) (os : Os) (started : os.Started) (H : Type) (enc : TypeId × Value → H) :
    ReturnsInHanded {} Try.checked os 6 .any (Rows.timetableEarliestSpec.pre6 enc Try.prog Try.f6 Rows.timetableEarliestRow.domain false) (Rows.timetableEarliestSpec.post enc Try.prog Try.f6 false true false false) := by
  refine returnsInHanded_of_change (C := Try.checked) own started (by kernel_rfl) Try.func6
    (ChangeSpec.witness6 (enc := enc) (C := Try.checked) false ⟨#[], #[.int .i64 0, .slice none 0 0], []⟩ 8 (by kernel_rfl) (by kernel_rfl) (by kernel_rfl) (by kernel_rfl)) ?_
  intro W base args ds gs before hval0 hW hcnd _
  have hval : ∀ (j : Nat) t v, Try.f6.params[j]? = some t → args[j]? = some v → Value.okWide Try.prog W .any base t v := hval0
  have hW' := hW
  obtain ⟨p, q, hA0, hV, rfl, hfz, hnd⟩ := hW
  have hA : DataW.TrodAll enc Try.prog W 0 (fun _ => true) true Try.f6.params.toList args.toList ds p := hA0
  have hAk := hA
  rw [Try.params6] at hA hval
  obtain ⟨xs, hs, hr⟩ := args_shape (J := fun _ => False) (d := 12) (fun t ht => timetableEarliest_plain t (by simpa using ht)) (fun j t v h1 h2 => hval j t v (by simpa using h1) (by simpa using h2)) hA
  obtain ⟨n, h', hc⟩ := law xs hs
  obtain ⟨v0, vs0, d0, ds0, p0, q0, hargs, rfl, rfl, h0, r0⟩ := trodAll_cons hA
  obtain ⟨v1, vs1, d1, ds1, p1, q1, rfl, rfl, rfl, h1, r1⟩ := trodAll_cons r0
  obtain ⟨rfl, rfl, rfl⟩ := trodAll_nil r1
  obtain rfl : args = #[v0, v1] := by cases args; simp_all
  obtain ⟨rfl, rfl⟩ := trodVars_none hV
  clear hA0 hval0
  simp only [List.append_nil] at hW'
  refine (law_calls (callsOk n) hc hr).mono fun e W' ⟨he, h1, h2, hk⟩ => ?_
  subst he
  have hlt : ∀ x ∈ p0 ++ p1, x.block < W.heap.size := fun x hx => hW'.lt x (by simpa [List.append_assoc] using hx)
  exact ⟨_, rfl, post_of_kept (pa := p0 ++ p1) (pv := []) hW' (fun _ _ _ => trodAll_mk1 (shut_bool Try.underlying4 _))
    (fun sp hsp => trodAll_carry (DataW.TrodAll.respare kids full (by rw [Try.params6]; decide) (by simpa [List.append_assoc, Rows.timetableEarliestSpec] using hAk) (fun x hx => hsp x (by simpa [List.append_assoc] using hx))) (fun x hx => sameAt_of (hk _ (hlt x hx))))
    (fun _ _ => rfl) (by simp) h1 h2 hk (ok_one (by kernel_rfl) rfl (okWide_bool_mk Try.underlying4 _))⟩
theorem timetableEarliest_over (law : timetableEarliestLaw) : Rows.TimetableEarliestSaid :=
  OpenClaim.holds_of_wide 6 Try.f6 rfl rfl rfl rfl rfl rfl rfl ⟨rfl, rfl, rfl, rfl, rfl⟩ rfl rfl rfl rfl rfl (by kernel_rfl) Try.func6 (by kernel_rfl)
    (of_decide_eq_true (by kernel_rfl)) (by unfold Func.isWrapper; first | (rw [if_pos (by decide +kernel)]; kernel_rfl) | (rw [if_neg (by decide +kernel)]; exact ⟨rfl, rfl⟩))
    (fun os started H enc _ => timetableEarliest_lifted law os started H enc)
end Go.Proofs.Ytipbcpobnciccaa

namespace Go.Proofs.Ytipbcpobnciccaa
open Go.Lite
set_option maxRecDepth 100000

def netN (n : Int) (l : List (List D)) : Net := ⟨n.toNat, l.length, fun i => (lkF l i).toNat, fun i => (lkT l i).toNat, fun i => lkW l i⟩
theorem netN_ok {n : Int} {l : List (List D)} (h : goodL n l) : (netN n l).OK :=
  ⟨fun i hi => by have := (h.2.2.2 i hi).1; show (lkF l i).toNat < n.toNat; omega, fun i hi => by have := (h.2.2.2 i hi).2.1; show (lkT l i).toNat < n.toNat; omega⟩
structure SimR (n : Int) (s : RSt) (x : Rz) : Prop where
  l1 : s.1.length = n.toNat
  l2 : s.2.1.length = n.toNat
  t : ∀ j, x.t j = rg s.1 j
  b : ∀ j, j < n.toNat → x.b j = rg s.2.1 j
  r : x.r = s.2.2
theorem sim_step {n : Int} {l : List (List D)} (hl : goodL n l) {i ρ : Nat} (hi : i < l.length) {s : RSt} {x : Rz} (h : SimR n s x) : SimR n (stepR l i s) ((netN n l).step ρ i x) := by
  obtain ⟨h1, h2, h3, h4, h5⟩ := h
  obtain ⟨f1, f2, f3⟩ := hl.2.2.2 i hi
  unfold stepR Net.step netN
  simp only [h3]
  by_cases hc : rg s.1 (lkF l i).toNat + lkW l i > rg s.1 (lkT l i).toNat
  · rw [if_pos hc, if_pos hc]
    refine ⟨by simp only [len_rs]; exact h1, by simp only [len_rs]; exact h2, fun j => ?_, fun j hj => ?_, ?_⟩
    · simp only [upd]
      rw [rg_rs (by omega), h3]
    · simp only [upd]
      rw [rg_rs (by omega), h4 j hj]
    · simp only
      omega
  · rw [if_neg hc, if_neg hc]
    exact ⟨h1, h2, h3, h4, h5⟩
theorem sim_pass {n : Int} {l : List (List D)} (hl : goodL n l) {ρ : Nat} : ∀ (k i : Nat), i + k ≤ l.length → ∀ {s : RSt} {x : Rz}, SimR n s x → SimR n (passR l i k s) ((netN n l).pass ρ i k x)
  | 0, _, _, _, _, h => h
  | k + 1, i, hk, _, _, h => sim_pass hl k (i + 1) (by omega) (sim_step hl (by omega) h)
theorem sim_rounds {n : Int} {l : List (List D)} (hl : goodL n l) : ∀ (k ρ : Nat) {s : RSt} {x : Rz}, SimR n s x → SimR n (roundsR l k s) ((netN n l).rounds ρ k x)
  | 0, _, _, _, h => h
  | k + 1, ρ, s, x, h => by
    have h1 := sim_pass hl (ρ := ρ) l.length 0 (by omega) (s := (s.1, s.2.1, -1)) (x := { x with r := -1 }) ⟨h.l1, h.l2, h.t, h.b, rfl⟩
    simp only [roundsR, Net.rounds]
    have e : ((netN n l).pass ρ 0 (netN n l).m { x with r := -1 }).r = (passR l 0 l.length (s.1, s.2.1, -1)).2.2 := h1.r
    rw [e]
    split
    · exact h1
    · exact sim_rounds hl k (ρ + 1) h1
theorem sim_push {n : Int} {l t : List (List D)} (hl : goodL n l) (ht : t.length = n.toNat) : SimR n (pushR n l t) ((netN n l).rounds 1 (n.toNat + 1) (Rz.start (rg t))) :=
  sim_rounds hl _ _ ⟨ht, by simp, fun _ => rfl, fun j hj => (rg_rep hj).symm, rfl⟩
theorem kept_push {n : Int} {l t : List (List D)} (hl : goodL n l) (ht : t.length = n.toNat) (hr : (pushR n l t).2.2 < 0) : (netN n l).kept (rg (pushR n l t).1) := by
  have h := sim_push hl ht
  have h1 := Net.rounds_kept (E := netN n l) (n.toNat + 1) 1 (Rz.start (rg t)) (by omega) (by rw [h.r]; exact hr)
  intro i hi
  have := h1 i hi
  rw [h.t, h.t] at this
  exact this
theorem push_ub {n : Int} {l t : List (List D)} (hl : goodL n l) (ht : t.length = n.toNat) {p : Nat → Int} (hp : (netN n l).kept p) (h0 : ∀ j, rg t j ≤ p j) (j : Nat) : rg (pushR n l t).1 j ≤ p j := by
  have h := sim_push hl ht
  rw [← h.t]
  exact Net.rounds_ub hp _ _ _ h0 j
theorem push_le {n : Int} {l t : List (List D)} (hl : goodL n l) (ht : t.length = n.toNat) (j : Nat) : rg t j ≤ rg (pushR n l t).1 j := by
  have h := sim_push hl ht
  rw [← h.t]
  exact Net.rounds_le (E := netN n l) (n.toNat + 1) 1 (Rz.start (rg t)) j
theorem rg_zeros (n : Int) (j : Nat) : rg (zeros n) j = 0 := by
  unfold zeros
  by_cases hj : j < n.toNat
  · exact rg_rep hj
  · exact rg_ge (by simp only [List.length_replicate]; omega)
/-- Additional links: no moment is before the first one. -/
theorem kept_first {n : Int} {l : List (List D)} {p : Nat → Int} (hp : (netN n (allL n l)).kept p) {j : Nat} (hj : j < n.toNat) : p 0 ≤ p j := by
  have := hp (l.length + j) (show l.length + j < (allL n l).length by rw [len_allL]; omega)
  simp only [netN] at this
  unfold lkF lkT lkW at this
  rw [allL_get2 hj] at this
  simp only [ix, List.getD_cons_zero, List.getD_cons_succ, D.I, Int.toNat_natCast, Int.toNat_zero] at this
  omega
theorem push_zero {n : Int} {l : List (List D)} (hp : netP n l) (hr : (pushR n (allL n l) (zeros n)).2.2 < 0) : rg (pushR n (allL n l) (zeros n)).1 0 = 0 := by
  have hl := good_all hp
  have hn := (net_of hp).1
  have hk := kept_push hl (len_zeros n) hr
  have h1 := push_ub hl (len_zeros n) (p := fun j => if j < n.toNat then rg (pushR n (allL n l) (zeros n)).1 j - rg (pushR n (allL n l) (zeros n)).1 0 else rg (pushR n (allL n l) (zeros n)).1 j) (fun i hi => by
      have h2 := hk i hi
      have h3 := (netN_ok hl).f i hi
      have h4 := (netN_ok hl).t i hi
      have h3' : (netN n (allL n l)).f i < n.toNat := h3
      have h4' : (netN n (allL n l)).t i < n.toNat := h4
      simp only
      rw [if_pos h3', if_pos h4']
      omega) (fun j => by
      rw [rg_zeros]
      split
      · rename_i hj
        have := kept_first hk hj
        omega
      · have := push_le hl (len_zeros n) j
        rw [rg_zeros] at this
        exact this) 0
  rw [if_pos (by omega)] at h1
  have h2 := push_le hl (len_zeros n) 0
  rw [rg_zeros] at h2
  omega
theorem ref_push {n : Int} {l : List (List D)} (hp : netP n l) : (refR n l (zeros n)).1 = (pushR n (allL n l) (zeros n)).1 ∧ refOk n l (zeros n) = decide ((pushR n (allL n l) (zeros n)).2.2 < 0) := by
  have hl := good_all hp
  obtain ⟨e1, e2⟩ := rounds_last (l := allL n l) (zeros n, List.replicate n.toNat [.i (-1)], -1) (zeros n, [], 0) rfl hl n.toNat
  have e1' : (refR n l (zeros n)).1 = (pushR n (allL n l) (zeros n)).1 := e1.symm
  refine ⟨e1', ?_⟩
  unfold refOk
  rw [e1']
  by_cases hr : (pushR n (allL n l) (zeros n)).2.2 < 0
  · have h2 : (refR n l (zeros n)).2.2 < 0 := e2.1 hr
    rw [decide_eq_true hr, decide_eq_true h2, push_zero hp hr]
    rfl
  · have h2 : ¬ (refR n l (zeros n)).2.2 < 0 := fun h => hr (e2.2 h)
    rw [decide_eq_false hr, decide_eq_false h2]
    rfl
theorem keeps_push {n : Int} {l : List (List D)} (hp : netP n l) (hr : (pushR n (allL n l) (zeros n)).2.2 < 0) : keepsB n l (pushR n (allL n l) (zeros n)).1 = true := by
  have hl := good_all hp
  have hn := (net_of hp).1
  have hk := kept_push hl (len_zeros n) hr
  unfold keepsB
  simp only [Bool.and_eq_true, decide_eq_true_eq, allFrom_iff, beq_iff_eq]
  refine ⟨by rw [(sim_push hl (len_zeros n)).l1]; omega, fun j _ _ => ?_, push_zero hp hr, fun j _ hj => ?_⟩
  · have := push_le hl (len_zeros n) j
    rw [rg_zeros] at this
    rw [decide_eq_false (by omega)]
    rfl
  · have := hk j (by rw [Nat.zero_add] at hj; exact hj)
    unfold keptF
    rw [decide_eq_true_eq]
    have h2 : rg (pushR n (allL n l) (zeros n)).1 (lkF (allL n l) j).toNat + lkW (allL n l) j ≤ rg (pushR n (allL n l) (zeros n)).1 (lkT (allL n l) j).toNat := this
    omega

/-! ### The proof that there is no timetable -/
theorem revR_get : ∀ (k i : Nat) (r : List (List D)), r.length ≤ i + k → ∀ j, j < r.length → rg (revR i k r) j = if i ≤ j ∧ j + i < r.length then rg r (r.length - 1 - j) else rg r j
  | 0, i, r, hk, j, hj => by
    simp only [revR]
    rw [if_neg (by omega)]
  | k + 1, i, r, hk, j, hj => by
    simp only [revR]
    by_cases hc : (i : Int) < (r.length : Int) - 1 - i
    · have hc' : i < r.length - 1 - i := by omega
      rw [if_pos hc, revR_get k (i + 1) _ (by simp only [len_rs]; omega) j (by simp only [len_rs]; exact hj)]
      simp only [len_rs]
      have g : ∀ q, q < r.length → rg (rs (rs r i (rg r (r.length - 1 - i))) (r.length - 1 - i) (rg r i)) q = if q = r.length - 1 - i then rg r i else if q = i then rg r (r.length - 1 - i) else rg r q := fun q hq => by
        rw [rg_rs (by rw [len_rs]; omega), rg_rs (by omega)]
      rw [g _ hj, g _ (by omega)]
      by_cases h1 : j = i
      · subst h1
        rw [if_neg (by omega), if_neg (by omega), if_pos rfl, if_pos (by omega)]
      · by_cases h2 : j = r.length - 1 - i
        · rw [if_neg (by omega), if_pos h2, if_pos (by omega), h2]
          have : r.length - 1 - (r.length - 1 - i) = i := by omega
          rw [this]
        · by_cases h3 : i ≤ j ∧ j + i < r.length
          · rw [if_pos (by omega), if_neg (by omega), if_neg (by omega), if_pos h3]
          · rw [if_neg (by omega), if_neg h2, if_neg h1, if_neg h3]
    · rw [if_neg hc]
      by_cases h3 : i ≤ j ∧ j + i < r.length
      · rw [if_pos h3]
        have : r.length - 1 - j = j := by omega
        rw [this]
      · rw [if_neg h3]
theorem chain_get {n : Int} {l b : List (List D)} : ∀ (k : Nat) (v : Int) (j : Nat), j < k → rg (chainF n l b k v) j = backI n l b (walk n l b j v)
  | k + 1, v, 0, _ => rfl
  | k + 1, v, j + 1, h => chain_get k (predI n l b v) j (by omega)
theorem chain_len {n : Int} {l b : List (List D)} : ∀ (k : Nat) (v : Int), (chainF n l b k v).length = k
  | 0, _ => rfl
  | k + 1, v => by simp [chainF, chain_len k]
theorem walk_succ {n : Int} {l b : List (List D)} : ∀ (k : Nat) (v : Int), walk n l b (k + 1) v = predI n l b (walk n l b k v)
  | 0, _ => rfl
  | k + 1, v => walk_succ k (predI n l b v)
theorem weigh_chain {a c : List (List D)} {P W : Nat → Int} {m : Nat} (h1 : ∀ j, j < m → 0 ≤ rg c j ∧ rg c j ≤ (a.length : Int) - 1) (h2 : ∀ j, j < m → lkF a (rg c j).toNat = P (m - j) ∧ lkT a (rg c j).toNat = P (m - 1 - j) ∧ lkW a (rg c j).toNat = W (m - 1 - j)) :
    ∀ (k i : Nat) (s : Int), i + k = m → weighF a c i k s (P k) = (true, s + sumTo W k, P 0)
  | 0, i, s, _ => by simp [weighF, sumTo]
  | k + 1, i, s, h => by
    obtain ⟨e1, e2, e3⟩ := h2 i (by omega)
    rw [show m - i = k + 1 by omega] at e1
    rw [show m - 1 - i = k by omega] at e2 e3
    simp only [weighF]
    rw [if_pos ⟨h1 i (by omega), e1⟩, e2, e3, weigh_chain h1 h2 k (i + 1) _ (by omega)]
    simp only [sumTo]
    rw [show s + W k + sumTo W k = s + (sumTo W k + W k) by omega]
theorem dist_walk {n : Int} {l b : List (List D)} {e : Int} : ∀ (f j : Nat) (v : Int), walk n l b j v = e → j ≤ f → ∃ m, m ≤ j ∧ walk n l b m v = e ∧ ∀ k, stepsTo n l b v e k f = k + m
  | 0, j, v, hw, hj => by
    obtain rfl : j = 0 := by omega
    exact ⟨0, Nat.le_refl _, hw, fun k => rfl⟩
  | f + 1, j, v, hw, hj => by
    by_cases hc : v = e
    · refine ⟨0, Nat.zero_le _, hc, fun k => ?_⟩
      rw [stepsTo, if_pos hc]
      rfl
    · match j, hw with
      | 0, hw => exact absurd hw hc
      | j + 1, hw =>
        obtain ⟨m, m1, m2, m3⟩ := dist_walk f j (predI n l b v) hw (by omega)
        refine ⟨m + 1, by omega, m2, fun k => ?_⟩
        rw [stepsTo, if_neg hc, m3]
        omega
theorem proof_proves {n : Int} {l : List (List D)} (hp : netP n l) (hr : ¬ (pushR n (allL n l) (zeros n)).2.2 < 0) : provesB n (allL n l) (proofR n (allL n l)) = true := by
  have hl := good_all hp
  obtain ⟨hn1, hn2, -, -⟩ := net_of hp
  have hla := len_allL n l
  have hbk := back_push hl (by omega) (zeros n)
  have hno := (note_push hl (zeros n)).2.2.2
  have hs := sim_push hl (len_zeros n)
  have hE := netN_ok hl
  obtain ⟨ρ', -, I, hI⟩ := Net.rounds_inv hE (n.toNat + 1) 1 (Rz.start (rg (zeros n))) (by omega) (Rz.start_inv _) (by omega)
  obtain ⟨hρ, v, hv1, hv2, hv3⟩ := hI (by rw [hs.r]; omega)
  clear hI
  rw [hs.r] at hv1
  generalize hx : (netN n (allL n l)).rounds 1 (n.toNat + 1) (Rz.start (rg (zeros n))) = x at *
  generalize hpu : pushR n (allL n l) (zeros n) = pu at *
  have hn' : (netN n (allL n l)).n = n.toNat := rfl
  obtain ⟨k, k0, k1, k2, k3⟩ := I.circle (d := fun u => ((allL n l).length - n.toNat) + u) hE (fun u hu => by rw [hn'] at hu; show _ < (allL n l).length; omega) hv3 hv2 (by rw [hn']; omega) (K := n.toNat + 1) rfl
  have hg : ∀ u, u < n.toNat → (netN n (allL n l)).f ((netN n (allL n l)).back x.b (fun u => ((allL n l).length - n.toNat) + u) u) = (predI n (allL n l) pu.2.1 u).toNat ∧ (netN n (allL n l)).back x.b (fun u => ((allL n l).length - n.toNat) + u) u = (backI n (allL n l) pu.2.1 u).toNat := fun u hu => by
    have hb : (netN n (allL n l)).back x.b (fun u => ((allL n l).length - n.toNat) + u) u = (backI n (allL n l) pu.2.1 u).toNat := by
      unfold Net.back backI
      rw [hs.b u hu, Int.toNat_natCast]
      by_cases hc : rg pu.2.1 u < 0
      · rw [if_pos hc, if_pos hc]
        show (allL n l).length - n.toNat + u = _
        omega
      · rw [if_neg hc, if_neg hc]
    refine ⟨?_, hb⟩
    rw [hb]
    rfl
  have hit : ∀ (q u : Nat), u < n.toNat → iter (fun y => (netN n (allL n l)).f ((netN n (allL n l)).back x.b (fun u => ((allL n l).length - n.toNat) + u) y)) q u = (walk n (allL n l) pu.2.1 q u).toNat := fun q => by
    induction q with
    | zero => intro u _; simp [iter, walk]
    | succ q ih =>
      intro u hu
      simp only [iter, walk]
      rw [(hg u hu).1]
      have hpr := pred_rng hbk (v := (u : Int)) (by omega) (by omega)
      rw [ih _ (by omega)]
      congr 1
      congr 1
      omega
  have hv0 : (v : Int) < n := by omega
  have hw0 := walk_rng hbk (n.toNat + 1) (v := (v : Int)) (by omega) hv0
  rw [hit (n.toNat + 1) v (by omega)] at k2 k3
  obtain ⟨y, hy⟩ : ∃ y : Nat, walk n (allL n l) pu.2.1 (n.toNat + 1) v = y := ⟨(walk n (allL n l) pu.2.1 (n.toNat + 1) v).toNat, by omega⟩
  have hyn : y < n.toNat := by omega
  rw [hy, Int.toNat_natCast] at k2 k3
  have k2' : walk n (allL n l) pu.2.1 k y = y := by
    rw [hit _ _ hyn] at k2
    have := walk_rng hbk k (v := (y : Int)) (by omega) (by omega)
    omega
  -- the circle
  obtain ⟨k', rfl⟩ : ∃ k', k = k' + 1 := ⟨k - 1, by omega⟩
  have k1' : k' + 1 ≤ n.toNat := k1
  obtain ⟨m, m1, m2, m3⟩ := dist_walk 501 k' (predI n (allL n l) pu.2.1 y) k2' (by omega)
  have hm : dist n (allL n l) pu.2.1 (predI n (allL n l) pu.2.1 y) y = m := (m3 0).trans (Nat.zero_add m)
  have hpr : proofR n (allL n l) = revR 0 (m + 1) (chainF n (allL n l) pu.2.1 (m + 1) y) := by
    unfold proofR
    rw [hpu]
    simp only [hv1, hy]
    unfold circle
    rw [hm]
    show revR 0 (chainF n (allL n l) pu.2.1 (m + 1) y).length (chainF n (allL n l) pu.2.1 (m + 1) y) = _
    rw [chain_len]
  have hlen : (proofR n (allL n l)).length = m + 1 := by rw [hpr, len_revR, chain_len]
  have hget : ∀ j, j < m + 1 → rg (proofR n (allL n l)) j = backI n (allL n l) pu.2.1 (walk n (allL n l) pu.2.1 (m - j) y) := fun j hj => by
    rw [hpr, revR_get _ _ _ (by rw [chain_len]; omega) j (by rw [chain_len]; exact hj), chain_len, if_pos (by omega), chain_get _ _ _ (by omega)]
    have : m + 1 - 1 - j = m - j := by omega
    rw [this]
  have hwr : ∀ q, 0 ≤ walk n (allL n l) pu.2.1 q y ∧ walk n (allL n l) pu.2.1 q y < n := fun q => walk_rng hbk q (by omega) (by omega)
  have hb0 : ∀ q, 0 ≤ rg pu.2.1 (walk n (allL n l) pu.2.1 q y).toNat := fun q => by
    have := k3 q
    rw [hit _ _ hyn, hs.b _ (by have := hwr q; omega)] at this
    exact this
  have hbI : ∀ q, backI n (allL n l) pu.2.1 (walk n (allL n l) pu.2.1 q y) = rg pu.2.1 (walk n (allL n l) pu.2.1 q y).toNat := fun q => by
    unfold backI
    rw [if_neg (by have := hb0 q; omega)]
  have hT : ∀ q, lkT (allL n l) (backI n (allL n l) pu.2.1 (walk n (allL n l) pu.2.1 q y)).toNat = walk n (allL n l) pu.2.1 q y := fun q => by
    have hq := hwr q
    have hq2 := hs.b (walk n (allL n l) pu.2.1 q y).toNat (by omega)
    obtain ⟨e, e1, e2, e3, -⟩ := I.by_ (walk n (allL n l) pu.2.1 q y).toNat (by rw [hq2]; exact hb0 q)
    rw [hq2, ← hbI] at e1
    rw [e1, Int.toNat_natCast]
    have e3' : (lkT (allL n l) e).toNat = (walk n (allL n l) pu.2.1 q y).toNat := e3
    have := (hl.2.2.2 e e2).2.1
    omega
  have hrange : ∀ j, j < m + 1 → 0 ≤ rg (proofR n (allL n l)) j ∧ rg (proofR n (allL n l)) j ≤ ((allL n l).length : Int) - 1 := fun j hj => by
    rw [hget j hj]
    have := back_rng hbk (hwr (m - j)).1 (hwr (m - j)).2
    omega
  have hW := I.weighs (d := fun u => ((allL n l).length - n.toNat) + u) (y := y) (k := m + 1) (by omega) (by
    rw [hit _ _ hyn]
    have : walk n (allL n l) pu.2.1 (m + 1) y = y := m2
    rw [this]
    exact Int.toNat_natCast y) k3
  have hWs : (fun j => (netN n (allL n l)).w ((netN n (allL n l)).back x.b (fun u => ((allL n l).length - n.toNat) + u) (iter (fun y => (netN n (allL n l)).f ((netN n (allL n l)).back x.b (fun u => ((allL n l).length - n.toNat) + u) y)) j y))) = fun q => lkW (allL n l) (backI n (allL n l) pu.2.1 (walk n (allL n l) pu.2.1 q y)).toNat := by
    funext q
    rw [hit _ _ hyn]
    have hq := hwr q
    rw [(hg _ (by omega)).2]
    have : (((walk n (allL n l) pu.2.1 q y).toNat : Nat) : Int) = walk n (allL n l) pu.2.1 q y := by omega
    rw [this]
    rfl
  rw [hWs] at hW
  have key := weigh_chain (a := allL n l) (c := proofR n (allL n l)) (P := fun q => walk n (allL n l) pu.2.1 q y) (W := fun q => lkW (allL n l) (backI n (allL n l) pu.2.1 (walk n (allL n l) pu.2.1 q y)).toNat) (m := m + 1) hrange (fun j hj => by
    rw [hget j hj]
    have a1 : m + 1 - 1 - j = m - j := by omega
    have a2 : m + 1 - j = (m - j) + 1 := by omega
    simp only [a1, a2]
    exact ⟨(walk_succ (m - j) (y : Int)).symm, hT _, trivial⟩) (m + 1) 0 0 (by omega)
  have hfrom : lkF (allL n l) (rg (proofR n (allL n l)) 0).toNat = walk n (allL n l) pu.2.1 (m + 1) y := by
    rw [hget 0 (by omega)]
    exact (walk_succ m (y : Int)).symm
  unfold provesB
  rw [hlen, hfrom, key, decide_eq_true (hrange 0 (by omega)), decide_eq_true (show 1 ≤ ((m + 1 : Nat) : Int) ∧ ((m + 1 : Nat) : Int) ≤ n by omega)]
  have m2' : walk n (allL n l) pu.2.1 (m + 1) y = y := m2
  have w0 : walk n (allL n l) pu.2.1 0 y = y := rfl
  simp only [Bool.true_and, m2', w0, Int.zero_add, beq_self_eq_true]
  exact decide_eq_true hW
end Go.Proofs.Ytipbcpobnciccaa

namespace Go.Proofs.Ytipbcpobnciccaa
open Go.Lite
set_option maxRecDepth 100000
theorem room_le {t : List (List D)} {p q : Int} (hq : 0 ≤ p) (h : room t (q + p)) : room t q := by
  obtain ⟨M, h1, h2⟩ := h
  exact ⟨M, h1, by omega⟩
theorem room_rounds {n : Int} {l : List (List D)} (hl : goodL n l) : ∀ (k : Nat) {s : RSt}, (s.1.length : Int) = n → ∀ {q : Int}, room s.1 (q + l.length * k) → room (roundsR l k s).1 q
  | 0, s, _, q, h => by
    have e : q + (l.length : Int) * ((0 : Nat) : Int) = q := by simp
    rw [e] at h
    exact h
  | k + 1, s, hs, q, h => by
    have e : q + (l.length : Int) * ((k + 1 : Nat) : Int) = q + (l.length : Int) * (k : Int) + (l.length : Int) := by
      rw [show ((k + 1 : Nat) : Int) = (k : Int) + 1 from rfl, Int.mul_add, Int.mul_one, Int.add_assoc]
    rw [e] at h
    have h1 := room_pass hl l.length 0 (by omega) (s := (s.1, s.2.1, -1)) hs h
    simp only [roundsR]
    split
    · exact room_le (Int.mul_nonneg (by omega) (by omega)) h1
    · exact room_rounds hl k (by rw [(len_passR l l.length 0 (s.1, s.2.1, -1)).1]; exact hs) h1
theorem room_push {n : Int} {l : List (List D)} (hl : goodL n l) (j : Nat) : rg (pushR n l (zeros n)).1 j < 9223372036854775808 := by
  obtain ⟨g1, g2, g3, -⟩ := id hl
  have hz := len_zeros n
  have h : room (pushR n l (zeros n)).1 0 := room_rounds hl _ (by simp only; omega) (by
    refine ⟨0, fun j => by simp only; rw [rg_zeros]; omega, ?_⟩
    have : (l.length : Int) * ((n.toNat + 1 : Nat) : Int) ≤ 5500 * 501 := Int.mul_le_mul (by omega) (by omega) (by omega) (by omega)
    omega)
  have := room_rg h (by omega) j
  omega
theorem sameR_refl (a : List (List D)) : sameR a a = true := by
  unfold sameR
  rw [Bool.and_eq_true, allFrom_iff]
  exact ⟨decide_eq_true rfl, fun j _ _ => beq_self_eq_true _⟩
set_option maxRecDepth 100000 in
theorem law6 (a b : D) : (fnT C tab6 6 s6 [a, b]).run = some [D.b true] := by
  have hbig := big_eq
  refine (congrArg T.run (t6 a b)).trans ?_
  refine go_not (fun _ => rfl) fun hf => ?_
  have hb := few_lt hf
  refine go_yes hb (go_ite (fun hn => go_if (fun hr => ?_) fun hr => ?_) fun hn => ?_)
  · have hp : netP a.I b.L := hn
    obtain ⟨e1, e2⟩ := ref_push hp
    have hl := good_all hp
    obtain ⟨k1, k2, k3, k4⟩ := net_of hp
    have hlen : (pushR a.I (allL a.I b.L) (zeros a.I)).1.length = a.I.toNat := (sim_push hl (len_zeros _)).l1
    have ht : List.take a.I.toNat (pushR a.I (allL a.I b.L) (zeros a.I)).1 = (pushR a.I (allL a.I b.L) (zeros a.I)).1 := List.take_of_length_le (by omega)
    refine go_yes hb (go_notT hn (go_yes hp (go_notT (by rw [e2]; exact decide_eq_true hr) (go_true rfl (go_true rfl ?_)))))
    simp only [e1, ht]
    refine go_dec (by omega) (go_dec (by omega) (go_yes (by omega) (go_true (sameR_refl _) (go_dec (by omega) (go_yes ⟨hb, by omega, room_push hl⟩ (go_true ?_ rfl))))))
    rw [hn, Bool.true_and]
    exact keeps_push hp hr
  · have hp : netP a.I b.L := hn
    obtain ⟨e1, e2⟩ := ref_push hp
    have hpr := proof_proves hp hr
    refine go_yes hb (go_notT hn (go_yes hp (go_notF (by rw [e2]; exact decide_eq_false hr) (go_true rfl (go_true rfl ?_)))))
    simp only [Int.toNat_natCast, List.take_length]
    exact go_dec (Nat.le_refl _) (go_yes hp (go_true hpr (go_dec (Nat.le_refl _) (go_yes hb (go_true (by rw [hn, hpr]; rfl) rfl)))))
  · exact go_yes hb (go_notF hn (go_true rfl (go_true rfl rfl)))
set_option maxRecDepth 100000 in
theorem timetableEarliest_law : timetableEarliestLaw := fun xs hx =>
  law_true_wf hC (sp := sp6) (lp := lp6) (n := 12) ⟨ok15 11, ok16, ok28 6, ok18 10, ok19 8, ok29 9, ok30 6, ok21 11, ok31 6, trivial⟩ (by kernel_rfl) [] (by kernel_rfl) rfl (fun k hk => by cases hk)
    (ts := [3, 22]) (ks := s6.args) (by kernel_rfl) (of_decide_eq_true (by kernel_rfl)) (m := 2) (by kernel_rfl) (fun ds hl _ => by
      match ds, hl with
      | [a, b], _ => exact law6 a b) 12 xs hx
theorem timetable_earliest : Rows.TimetableEarliestSaid := timetableEarliest_over timetableEarliest_law
end Go.Proofs.Ytipbcpobnciccaa
