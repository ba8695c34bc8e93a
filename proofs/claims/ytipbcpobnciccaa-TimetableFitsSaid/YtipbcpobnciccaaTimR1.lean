/-
  Proofs by cases: in one case, a function answers in one shape; and a law is walked by its cases, each with tables of its own.
-/
import Derived.Test.YtipbcpobnciccaaTimR0
namespace Go.Proofs.Ytipbcpobnciccaa
open Go.Lite
theorem fn_cut {C : Cfg} {n : Nat} {f : FuncId} {ar : List SK} {rs : List (SK × List BK)} {G G' : List D → T (List D)} {q : SK × List BK} (k : Nat) (h : FnOK C n f (mkF ⟨ar, rs⟩ G)) (hl : 2 ≤ rs.length) (hk : rs[k]? = some q)
    (hg : ∀ ds r, (G' ds).run = some r → (G ds).run = some (.i k :: r)) : FnOK C n f (mkF ⟨ar, [q]⟩ G') := by
  intro args v hb h1 avs hv
  refine h args v hb ?_ avs hv
  unfold mkF at h1 ⊢
  dsimp only at h1 ⊢
  split at h1
  · rename_i ds hds
    rw [T.run_map, Option.map_eq_some_iff] at h1 ⊢
    obtain ⟨r, e1, e2⟩ := h1
    refine ⟨.i k :: r, hg ds r e1, ?_⟩
    rw [← e2]
    match rs, hl with
    | a :: b :: c, _ =>
      simp only [headR, List.headD_cons, List.tail_cons, D.I, Int.toNat_natCast, List.getD_eq_getElem?_getD, hk, Option.getD_some]
  · cases h1
theorem fn_mono {C : Cfg} {n : Nat} {f : FuncId} {s : Sig} {G G' : List D → T (List D)} (h : FnOK C n f (mkF s G)) (hg : ∀ ds r, (G' ds).run = some r → (G ds).run = some r) : FnOK C n f (mkF s G') := by
  intro args v hb h1 avs hv
  refine h args v hb ?_ avs hv
  unfold mkF at h1 ⊢
  split at h1
  · rw [T.run_map, Option.map_eq_some_iff] at h1 ⊢
    obtain ⟨r, e1, e2⟩ := h1
    exact ⟨r, hg _ r e1, e2⟩
  · cases h1
/-- In this case the law answers true, with tables of its own. -/
def CaseOK (f : FuncId) (ks : List SK) (ds : List D) : Prop :=
  ∃ n sp lp sw, AllOK C n sp ∧ AllOKW C n sw ∧ LoopsOK C (mkTab sp lp sw) n f (bodyAt C.P f) ∧ (fnT C (mkTab sp lp sw) f ⟨ks, [(.k .bool, [])]⟩ ds).run = some [D.b true]
theorem case_of {f : FuncId} {ks : List SK} {ds : List D} {sp : SpL} {lp : LpL} {sw : SwL} (n : Nat) (hsp : AllOK C n sp) (hsw : AllOKW C n sw) (keys : List Nat) (h1 : Lite.loopsIn (bodyAt C.P f) = keys.map (loopOf C.P f)) (h2 : keys.map (fun k => Lite.keyOf (loopOf C.P f k)) = keys)
    (hl : ∀ k ∈ keys, ∀ L, lpOf lp k = some L → LoopSim C n f (loopOf C.P f k) L) (hr : (fnT C (mkTab sp lp sw) f ⟨ks, [(.k .bool, [])]⟩ ds).run = some [D.b true]) : CaseOK f ks ds :=
  ⟨n, sp, lp, sw, hsp, hsw, loops_of keys h1 h2 hl, hr⟩
theorem law_cases {f : FuncId} (hf : hasBody C.P f = true) {ts : List TypeId} {ks : List SK} (hks : ks = ts.map (argSK C.P)) (hfit : ∀ t ∈ ts, argFit C.P t = true) {m : Nat} (hm : (ts.map (kindsN C.P)).sum = m)
    (hrun : ∀ ds : List D, ds.length = m → WfC (ts.flatMap (kindsL C.P)) ds 0 → CaseOK f ks ds) (d : Nat) (xs : List AV) (hx : ArgsShape C.P d ts xs) : ∃ n h', callA C n Unit none f xs [] () = some (.bool true, h', ()) := by
  obtain ⟨ds, hlen, hv, -, hwf⟩ := args_enc C.P d ts xs [] hx hfit
  rw [List.append_nil, ← hks] at hv
  obtain ⟨n, sp, lp, sw, hsp, hsw, hlo, hr⟩ := hrun ds (hlen.trans hm) hwf
  unfold fnT at hr
  rw [T.run_bind, Option.bind_eq_some_iff] at hr
  obtain ⟨⟨v0, h0⟩, hc, hfr⟩ := hr
  rw [T.run_ofO] at hfr
  obtain ⟨fn, h3, h4⟩ := hasBody_spec hf
  obtain ⟨v', h', h5, h6, h7⟩ := call_sim hC (spOK_ofW hsp hsw) h3 h4 hlo _ _ _ hc xs hv
  have h8 := (fitsR_sim hfr h6 h7).1
  refine ⟨n + 1, h', ?_⟩
  rw [h5]
  have : v' = .bool true := h8
  rw [this]
end Go.Proofs.Ytipbcpobnciccaa
