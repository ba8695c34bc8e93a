/-
  Raising ends where there are times that keep all links.
-/
import Derived.Test.YtipbcpobnciccaaTimF
namespace Go.Lite
theorem Net.rounds_done {E : Net} (hE : E.OK) (hm : 0 < E.m) {p : Nat → Int} (hp : E.kept p) (t : Nat → Int) : (E.rounds 1 (E.n + 1) (Rz.start t)).r < 0 := by
  apply Classical.byContradiction
  intro hr
  obtain ⟨ρ', -, I, hI⟩ := Net.rounds_inv hE (E.n + 1) 1 (Rz.start t) (by omega) (Rz.start_inv _) (by omega)
  obtain ⟨hρ, v, hv1, hv2, hv3⟩ := hI (by omega)
  clear hI
  generalize E.rounds 1 (E.n + 1) (Rz.start t) = s at *
  obtain ⟨k, k0, k1, k2, k3⟩ := I.circle (d := fun _ => 0) hE (fun _ _ => hm) hv3 hv2 (by omega) (K := E.n + 1) rfl
  have hW := I.weighs k0 k2 k3
  generalize iter (fun x => E.f (E.back s.b (fun _ => 0) x)) (E.n + 1) v = y at *
  have hle : sumTo (fun j => E.w (E.back s.b (fun _ => 0) (iter (fun x => E.f (E.back s.b (fun _ => 0) x)) j y))) k ≤ sumTo (fun j => p (iter (fun x => E.f (E.back s.b (fun _ => 0) x)) j y) - p (iter (fun x => E.f (E.back s.b (fun _ => 0) x)) (j + 1) y)) k := by
    refine sumTo_le fun j _ => ?_
    rw [iter_succ]
    have h0 := k3 j
    generalize iter (fun x => E.f (E.back s.b (fun _ => 0) x)) j y = u at h0 ⊢
    obtain ⟨e, e1, e2, e3, -⟩ := I.by_ u h0
    have hb : E.back s.b (fun _ => 0) u = e := by unfold Net.back; rw [if_neg (by omega), e1]; rfl
    have := hp e e2
    simp only [hb]
    rw [e3] at this
    omega
  rw [sumTo_tele (fun j => p (iter (fun x => E.f (E.back s.b (fun _ => 0) x)) j y)) k, k2] at hle
  simp only [iter] at hle
  omega
end Go.Lite
namespace Go.Proofs.Ytipbcpobnciccaa
open Go.Lite
theorem push_done {n : Int} {l t : List (List D)} (hl : goodL n l) (h0 : 0 < l.length) (ht : t.length = n.toNat) {p : Nat → Int} (hp : (netN n l).kept p) : (pushR n l t).2.2 < 0 := by
  rw [← (sim_push hl ht).r]
  exact Net.rounds_done (E := netN n l) (netN_ok hl) h0 hp (rg t)
theorem ref_pushT {n : Int} {l : List (List D)} (hp : netP n l) (t : List (List D)) : (refR n l t).1 = (pushR n (allL n l) t).1 ∧ ((refR n l t).2.2 < 0 ↔ (pushR n (allL n l) t).2.2 < 0) := by
  have hl := good_all hp
  obtain ⟨e1, e2⟩ := rounds_last (l := allL n l) (t, List.replicate n.toNat [.i (-1)], -1) (t, [], 0) rfl hl n.toNat
  exact ⟨e1.symm, e2.symm⟩
/-- Times that keep all links and begin at 0 are not before the earliest ones, and there are earliest ones. -/
theorem push_least {n : Int} {l : List (List D)} (hp : netP n l) {p : Nat → Int} (hk : (netN n (allL n l)).kept p) (h0 : ∀ j, 0 ≤ p j) : (pushR n (allL n l) (zeros n)).2.2 < 0 ∧ ∀ j, rg (pushR n (allL n l) (zeros n)).1 j ≤ p j := by
  have hl := good_all hp
  have hla := len_allL n l
  have hn := (net_of hp).1
  exact ⟨push_done hl (by omega) (len_zeros n) hk, fun j => push_ub hl (len_zeros n) hk (fun j => by rw [rg_zeros]; exact h0 j) j⟩
end Go.Proofs.Ytipbcpobnciccaa
