import Derived.Test.YtlofnkkokcihnaaSymPlan2
namespace Go.Lite

theorem flatV_noIds {a : AV} (h : flatV a = true) : noIds a := by
  cases a <;> first | (simp [flatV] at h; done) | exact noIds_plain fun _ => rfl
theorem flatL_noIds : ∀ {vs : List AV}, flatL vs = true → ∀ v ∈ vs, noIds v
  | v :: vs, h, u, hu => by
    simp only [flatL, Bool.and_eq_true] at h
    rcases List.mem_cons.1 hu with rfl | hu
    · exact flatV_noIds h.1
    · exact flatL_noIds h.2 u hu
theorem okS_sim {c : SV} {v : AV} (hc : okS c = true) (h : VR c v) : okV v = true := by
  cases c <;> simp only [okS, Bool.false_eq_true] at hc <;> simp only [VR] at h
  case eptr => obtain ⟨_, _, rfl, _⟩ := h; rfl
  case ro => rcases h with ⟨rfl, _⟩ | ⟨_, _, _, rfl, _⟩ <;> rfl
  case sl => obtain ⟨_, rfl⟩ := h; rfl
  case fn => obtain ⟨_, _, rfl, _⟩ := h; rfl
  case ifc => obtain ⟨_, rfl, _⟩ := h; rfl
  all_goals (subst h; rfl)
theorem okSL_sim : ∀ {cs : List SV} {vs : List AV}, okSL cs = true → VRL cs vs → okL vs = true
  | [], _, _, h => by simp only [VRL] at h; subst h; rfl
  | c :: cs, _, hc, h => by
    simp only [okSL, Bool.and_eq_true] at hc
    simp only [VRL] at h
    obtain ⟨v, vs', rfl, h1, h2⟩ := h
    simp only [okL, okS_sim hc.1 h1, okSL_sim hc.2 h2, Bool.and_self]
theorem toD_ok {k : K} {v : SV} {d : D} (h : toD k v = some d) : okS v = true := by
  unfold toD at h
  split at h <;> first | rfl | cases h
theorem toDs_ok : ∀ {ks : List K} {vs : List SV} {ds : List D}, toDs ks vs = some ds → okSL vs = true
  | [], [], _, _ => rfl
  | k :: ks, v :: vs, ds, h => by
    simp only [toDs] at h
    split at h
    · rename_i h1 h2; simp only [okSL, toD_ok h1, toDs_ok h2, Bool.and_self]
    · cases h
  | [], _ :: _, _, h => by simp [toDs] at h
  | _ :: _, [], _, h => by simp [toDs] at h

structure RR {S : Type} (r : RS) (r' : Res S) : Prop where
  v : VR r.v r'.v
  ups : UR r.ups r'.ups
  len : r.news.length = r'.news.length
  news : ∀ (i : Nat) b B, r.news[i]? = some b → r'.news[i]? = some B → OR b B
theorem RR.plain {S : Type} {v : SV} {a : AV} {s : S} (h : VR v a) : RR ⟨v, [], []⟩ (⟨a, [], [], s⟩ : Res S) := ⟨h, by simp only [UR], rfl, fun i b B h => by simp at h⟩
theorem RR.one {S : Type} {v : SV} {a : AV} {s : S} {b : SB} {B : Blk} {us : List (Nat × Option SB)} {us' : List (Nat × Option Blk)} (h : VR v a) (hu : UR us us') (hb : BlkR b B) : RR ⟨v, us, [some b]⟩ (⟨a, us', [some B], s⟩ : Res S) :=
  ⟨h, hu, rfl, fun i b' B' h1 h2 => by
    cases i with
    | zero => simp at h1 h2; subst h1; subst h2; exact hb
    | succ i => simp at h1⟩
theorem RR.upd {S : Type} {v : SV} {a : AV} {s : S} {i : Nat} {b : SB} {B : Blk} (h : VR v a) (hb : BlkR b B) : RR ⟨v, [(i, some b)], []⟩ (⟨a, [(i, some B)], [], s⟩ : Res S) :=
  ⟨h, by simp only [UR]; exact ⟨_, _, rfl, rfl, hb, rfl⟩, rfl, fun i b B h => by simp at h⟩

/-- What the table says of functions is so. -/
def SpOK (C : Cfg) (tab : Tab) (n : Nat) : Prop := ∀ f F, tab.sp f = some F → ∀ args v hb, (F args).run = some (v, hb) → ∀ avs, VRL args avs →
  ∃ v' h', callA C n Unit none f avs [] () = some (v', h', ()) ∧ VR v v' ∧ HR hb h'

theorem contents_sim {ls : Nat → Option SB} {l : Nat → Option Blk} (hl : ∀ i, OR (ls i) (l i)) {ks : List K} {x : SV} {a : AV} {xs : List (List D)} (h : (contentsS ls ks x).run = some xs) (hx : VR x a) : ∃ es fx, contents l ks.length a = some (es, fx) ∧ EncE ks xs es := by
  unfold contentsS at h
  split at h
  · cases h
    simp only [VR] at hx; subst hx
    exact ⟨[], true, rfl, EncE_nil⟩
  · rename_i c0 ks' l'
    split at h
    · rename_i hk
      cases h
      have := keqs_eq _ _ hk
      subst this
      simp only [VR] at hx
      rcases hx with ⟨rfl, rfl⟩ | ⟨kd, c0', es, rfl, _, he⟩
      · exact ⟨[], true, rfl, EncE_nil⟩
      · exact ⟨es, _, by simp only [contents, if_true] <;> rfl, he⟩
    · cases h
  · rename_i i s n
    split at h
    · rename_i ks' l' hi
      split at h
      · rename_i hk
        obtain ⟨hk, rfl⟩ := hk
        have := keqs_eq _ _ hk
        subst this
        simp only [T.run] at h
        split at h
        · rename_i hn
          cases h
          simp only [decide_eq_true_eq] at hn
          simp only [VR] at hx
          obtain ⟨cap, rfl⟩ := hx
          have := hl i
          rw [hi] at this
          obtain ⟨B, hB, hr⟩ := OR_some this
          obtain ⟨s', es, fl, rfl⟩ := BlkR_row hr
          simp only [BlkR] at hr
          obtain ⟨rfl, he⟩ := hr
          refine ⟨_, _, by simp only [contents, hB]; rw [if_pos ⟨by trivial, by trivial, by have := he.1; omega⟩], by simpa using EncE_take n he⟩
        · cases h
      · cases h
    · cases h
  · cases h
theorem EncE_isEmpty {ks : List K} {l : List (List D)} {es : List (List AV)} (h : EncE ks l es) : es.isEmpty = l.isEmpty := by
  have := h.1
  cases es <;> cases l <;> first | rfl | (simp at this)
theorem EncE_len0 {ks : List K} {l : List (List D)} {es : List (List AV)} (h : EncE ks l es) {i : Nat} (hi : i < l.length) : ∃ e, es[i]? = some e ∧ EncC ks (l.getD i []) 0 e := by
  have hl := h.1
  have hi' : i < es.length := by omega
  refine ⟨es[i], List.getElem?_eq_getElem hi', h.2 i _ _ (List.getElem?_eq_getElem hi') ?_⟩
  rw [List.getD_eq_getElem?_getD, List.getElem?_eq_getElem hi]; rfl
theorem EncE_set {ks : List K} {l : List (List D)} {es : List (List AV)} (h : EncE ks l es) (i : Nat) {c : List D} {e : List AV} (hc : EncC ks c 0 e) : EncE ks (l.set i c) (es.set i e) := by
  refine ⟨by simp [h.1], fun j e' c' he hc' => ?_⟩
  rw [List.getElem?_set] at he hc'
  split at he
  · rename_i hij
    rw [if_pos hij] at hc'
    split at he
    · rename_i hlt
      rw [if_pos (by rw [← h.1]; exact hlt)] at hc'
      cases he; cases hc'; exact hc
    · cases he
  · rename_i hij
    rw [if_neg hij] at hc'
    exact h.2 j e' c' he hc'
/-- Cells of which some were replaced. -/
theorem EncC_get : ∀ {ks : List K} {c : List D} {j q : Nat} {vs : List AV} {k : K}, EncC ks c j vs → ks[q]? = some k → ∃ v, vs[q]? = some v ∧ EncV k (c.getD (j + q) default) v
  | k :: ks, c, j, q, vs, k', h, hk => by
    simp only [EncC] at h
    obtain ⟨v, vs', rfl, h1, h2⟩ := h
    cases q with
    | zero => simp at hk; subst hk; exact ⟨v, rfl, h1⟩
    | succ q =>
      simp at hk
      obtain ⟨v', h3, h4⟩ := EncC_get h2 hk
      exact ⟨v', by simpa using h3, by rw [show j + (q + 1) = j + 1 + q by omega]; exact h4⟩
  | [], _, _, _, _, _, _, hk => by simp at hk
theorem EncC_mk : ∀ {ks : List K} {c : List D} {j : Nat} {vs : List AV}, vs.length = ks.length → (∀ (q : Nat) k v, ks[q]? = some k → vs[q]? = some v → EncV k (c.getD (j + q) default) v) → EncC ks c j vs
  | [], c, j, vs, hl, _ => by simp only [EncC]; exact List.length_eq_zero_iff.1 hl
  | k :: ks, c, j, v :: vs, hl, h => by
    simp only [EncC]
    refine ⟨v, vs, rfl, by simpa using h 0 k v rfl rfl, EncC_mk (by simpa using hl) fun q k' v' h1 h2 => ?_⟩
    have := h (q + 1) k' v' (by simpa using h1) (by simpa using h2)
    rw [show j + 1 + q = j + (q + 1) by omega]; exact this
  | k :: ks, c, j, [], hl, _ => by simp at hl
theorem updC_get (c ds : List D) (j : Nat) : ∀ (n q i : Nat), i < n → (updC c ds j q n)[i]? = some (if j ≤ q + i ∧ q + i < j + ds.length then ds.getD (q + i - j) default else c.getD (q + i) default)
  | n + 1, q, i, hi => by
    cases i with
    | zero => simp [updC]
    | succ i =>
      simp only [updC, List.getElem?_cons_succ]
      rw [updC_get c ds j n (q + 1) i (by omega)]
      rw [show q + 1 + i = q + (i + 1) by omega]
theorem EncC_upd {ks : List K} {c ds : List D} {j : Nat} {e : List AV} {vs : List SV} {as : List AV} (h : EncC ks c 0 e) (hd : toDs ((ks.drop j).take vs.length) vs = some ds) (hv : VRL vs as) (hj : j + vs.length ≤ ks.length) :
    EncC ks (updC c ds j 0 ks.length) 0 (e.take j ++ as ++ e.drop (j + as.length)) := by
  have hel := EncC_length h
  have hal := VRL_length hv
  obtain ⟨hdl, _⟩ := toDs_length hd
  have hdl' : ds.length = vs.length := by rw [hdl]; simp; omega
  have henc := toDs_enc (c := ds) (j := 0) hd hv (fun i d h => by simpa using h)
  refine EncC_mk (by simp; omega) fun q k v hk hq => ?_
  have hqk : q < ks.length := (List.getElem?_eq_some_iff.1 hk).1
  have hu := updC_get c ds j ks.length 0 q hqk
  simp only [Nat.zero_add] at hu ⊢
  rw [List.getD_eq_getElem?_getD, hu]
  simp only [Option.getD_some]
  by_cases hc : j ≤ q ∧ q < j + ds.length
  · rw [if_pos hc]
    have : (e.take j ++ as ++ e.drop (j + as.length))[q]? = as[q - j]? := by
      rw [List.getElem?_append_left (by simp; omega), List.getElem?_append_right (by simp; omega)]
      congr 1
      simp; omega
    rw [this] at hq
    have hk' : ((ks.drop j).take vs.length)[q - j]? = some k := by
      rw [List.getElem?_take, if_pos (by omega), List.getElem?_drop, show j + (q - j) = q by omega]; exact hk
    obtain ⟨v', h1, h2⟩ := EncC_get henc hk'
    rw [hq] at h1; cases h1
    simpa using h2
  · rw [if_neg hc]
    obtain ⟨v', h1, h2⟩ := EncC_get h hk
    have : (e.take j ++ as ++ e.drop (j + as.length))[q]? = e[q]? := by
      by_cases hlt : q < j
      · rw [List.getElem?_append_left (by simp; omega), List.getElem?_append_left (by simp; omega), List.getElem?_take, if_pos hlt]
      · rw [List.getElem?_append_right (by simp; omega), List.getElem?_drop]
        congr 1
        simp; omega
    rw [this, h1] at hq
    cases hq
    simpa using h2

theorem act_sim {C : Cfg} {tab : Tab} {n : Nat} (hS : SpOK C tab n) {S : Type} {H : Option (Hd S)} {at_ : Nat} {ls : Nat → Option SB} {l : Nat → Option Blk} (hl : ∀ i, OR (ls i) (l i)) {ms : MS} {m : MA} {r : RS} (s : S)
    (h : (actS C tab at_ ls ms).run = some r) (hm : MR ms m) : ∃ r', act C (callA C n) H at_ l s m = some r' ∧ r'.s = s ∧ RR r r' := by
  cases ms with
  | pure v =>
    simp only [MR] at hm
    obtain ⟨a, rfl, hv⟩ := hm
    cases h
    exact ⟨_, rfl, rfl, RR.plain hv⟩
  | newbox cs =>
    simp only [MR] at hm
    obtain ⟨vs, rfl, hv⟩ := hm
    simp only [actS] at h
    split at h
    · rename_i hok
      cases h
      refine ⟨_, by simp only [act]; rw [if_pos (okSL_sim hok hv)], rfl, RR.one ?_ (by simp only [UR]) ?_⟩
      · simp only [VR, VRL_length hv]
      · simp only [BlkR]
        exact ⟨vs, rfl, (VRL_length hv).symm, hv, flatL_noIds⟩
    · cases h
  | newrow ks l' =>
    simp only [MR] at hm
    obtain ⟨es, rfl, he, hok⟩ := hm
    cases h
    refine ⟨_, by simp only [act]; rw [if_pos (by rw [hok, EncE_lens he]; rfl)], rfl, RR.one ?_ (by simp only [UR]) ?_⟩
    · simp only [VR]; exact ⟨_, rfl⟩
    · simp only [BlkR]; exact ⟨by trivial, he⟩
  | load i sz k j agg nn =>
    simp only [MR] at hm
    subst hm
    simp only [actS] at h
    have hli := hl i
    split at h
    · rename_i cs hi
      rw [hi] at hli
      obtain ⟨B, hB, hr⟩ := OR_some hli
      obtain ⟨s', es, fl, rfl⟩ := BlkR_row hr
      simp only [BlkR] at hr
      obtain ⟨vs, rfl, rfl, hv, -⟩ := hr
      split at h
      · rename_i hc
        obtain ⟨rfl, rfl⟩ := hc
        simp only [act, hB, if_true, List.getElem?_cons_zero]
        split at h
        · rename_i hag
          rw [if_pos hag]
          split at h
          · rename_i hle
            cases h
            rw [if_pos (by rw [← VRL_length hv]; exact hle)]
            exact ⟨_, rfl, rfl, RR.plain (by simp only [VR]; exact ⟨_, rfl, VRL_take _ (VRL_drop _ hv)⟩)⟩
          · cases h
        · rename_i hag
          rw [if_neg hag]
          split at h
          · rename_i v hv'
            cases h
            obtain ⟨u, hu, hr⟩ := VRL_get hv hv'
            rw [hu]
            exact ⟨_, rfl, rfl, RR.plain hr⟩
          · cases h
      · cases h
    · rename_i ks l' hi
      rw [hi] at hli
      obtain ⟨B, hB, hr⟩ := OR_some hli
      obtain ⟨s', es, fl, rfl⟩ := BlkR_row hr
      simp only [BlkR] at hr
      obtain ⟨rfl, he⟩ := hr
      split at h
      · rename_i hc
        subst hc
        simp only [T.run] at h
        split at h
        · rename_i hk
          obtain ⟨e, hek, henc⟩ := EncE_len0 he (of_decide_eq_true hk)
          have hv := EncC_dec henc
          simp only [act, hB, if_true, hek]
          split at h
          · rename_i hag
            rw [if_pos hag]
            split at h
            · rename_i hle
              cases h
              rw [if_pos (by rw [EncC_length henc]; exact hle)]
              exact ⟨_, rfl, rfl, RR.plain (by simp only [VR]; exact ⟨_, rfl, VRL_take _ (VRL_drop _ hv)⟩)⟩
            · cases h
          · rename_i hag
            rw [if_neg hag]
            split at h
            · rename_i v hv'
              cases h
              obtain ⟨u, hu, hr⟩ := VRL_get hv hv'
              rw [hu]
              exact ⟨_, rfl, rfl, RR.plain hr⟩
            · cases h
        · cases h
      · cases h
    · cases h
  | store i sz k j vs =>
    simp only [MR] at hm
    obtain ⟨as, rfl, hv⟩ := hm
    simp only [actS] at h
    have hli := hl i
    have hal := VRL_length hv
    split at h
    · rename_i cs hi
      rw [hi] at hli
      obtain ⟨B, hB, hr⟩ := OR_some hli
      obtain ⟨s', es, fl, rfl⟩ := BlkR_row hr
      simp only [BlkR] at hr
      obtain ⟨us, rfl, rfl, hu, hno⟩ := hr
      split at h
      · rename_i hc
        obtain ⟨rfl, rfl⟩ := hc
        split at h
        · rename_i hok
          cases h
          simp only [act, hB, if_true, List.getElem?_cons_zero]
          rw [if_pos ⟨by rw [← hal, ← VRL_length hu]; exact hok.1, okSL_sim hok.2 hv⟩]
          refine ⟨_, rfl, rfl, RR.upd (by simp only [VR]) ?_⟩
          simp only [BlkR, List.set_cons_zero]
          refine ⟨_, rfl, by simp; omega, by rw [← hal]; exact VRL_append (VRL_append (VRL_take _ hu) hv) (VRL_drop _ hu), fun hfl v hm => ?_⟩
          simp only [Bool.and_eq_true] at hfl
          rcases List.mem_append.1 hm with hm | hm
          · rcases List.mem_append.1 hm with hm | hm
            · exact hno hfl.1 v (List.mem_of_mem_take hm)
            · exact flatL_noIds hfl.2 v hm
          · exact hno hfl.1 v (List.mem_of_mem_drop hm)
        · cases h
      · cases h
    · rename_i ks l' hi
      rw [hi] at hli
      obtain ⟨B, hB, hr⟩ := OR_some hli
      obtain ⟨s', es, fl, rfl⟩ := BlkR_row hr
      simp only [BlkR] at hr
      obtain ⟨rfl, he⟩ := hr
      split at h
      · rename_i hc
        subst hc
        split at h
        · rename_i ds hd
          split at h
          · rename_i hj
            simp only [T.run] at h
            split at h
            · rename_i hk
              cases h
              obtain ⟨e, hek, henc⟩ := EncE_len0 he (of_decide_eq_true hk)
              simp only [act, hB, if_true, hek]
              rw [if_pos ⟨by rw [← hal, EncC_length henc]; exact hj, okSL_sim (toDs_ok hd) hv⟩]
              refine ⟨_, rfl, rfl, RR.upd (by simp only [VR]) ?_⟩
              simp only [BlkR]
              exact ⟨by trivial, EncE_set he k (EncC_upd henc hd hv hj)⟩
            · cases h
          · cases h
        · cases h
      · cases h
    · cases h
  | append a x sz by_ ks =>
    simp only [MR] at hm
    obtain ⟨a', x', rfl, ha, hx, rfl⟩ := hm
    simp only [actS, T.run_bind, Option.bind_eq_some_iff] at h
    obtain ⟨xs, hxs, h⟩ := h
    obtain ⟨es, fx, hc, he⟩ := contents_sim hl hxs hx
    have hemp := EncE_isEmpty he
    have hlen := he.1
    simp only [act, hc]
    split at h
    · simp only [VR] at ha; subst ha
      simp only [T.run] at h
      split at h
      · rename_i hem
        cases h
        rw [if_pos (by rw [hemp]; exact hem)]
        exact ⟨_, rfl, rfl, RR.plain (by simp only [VR])⟩
      · rename_i hem
        rw [if_neg (by rw [hemp]; exact hem)]
        split at h
        · rename_i hs
          simp only [T.run] at h
          split at h
          · rename_i hb
            cases h
            simp only [decide_eq_true_eq] at hb
            rw [if_pos (by rw [hlen]; exact ⟨hb.1, hb.2, hs⟩)]
            exact ⟨_, rfl, rfl, RR.one (by simp only [VR]; exact ⟨_, by rw [hlen]⟩) (by simp only [UR]) (by simp only [BlkR]; exact ⟨by trivial, he⟩)⟩
          · cases h
        · cases h
    · rename_i c0 ks' es0
      split at h
      · rename_i hk
        have := keqs_eq _ _ hk
        subst this
        simp only [T.run] at h
        have ha0 := ha
        simp only [VR] at ha
        split at h
        · rename_i hem
          cases h
          rcases ha with ⟨rfl, h0⟩ | ⟨kd, c0', fs, rfl, hc0, he0⟩
          · simp only [hemp, hem, if_true]
            exact ⟨_, rfl, rfl, RR.plain ha0⟩
          · simp only [hemp, hem, if_true]
            exact ⟨_, rfl, rfl, RR.plain ha0⟩
        · rename_i hem
          split at h
          · rename_i hs
            simp only [T.run] at h
            split at h
            · rename_i hb
              cases h
              simp only [Bool.and_eq_true, decide_eq_true_eq] at hb
              obtain ⟨hb0, hb1, hb2⟩ := hb
              rcases ha with ⟨rfl, rfl⟩ | ⟨kd, c0', fs, rfl, hc0, he0⟩
              · simp only [hemp]
                rw [if_neg hem]
                simp only [List.length_nil, Nat.zero_add] at hb1 hb2
                rw [if_pos (by rw [hlen]; exact ⟨hb1, hb2, hs⟩)]
                exact ⟨_, rfl, rfl, RR.one (by simp only [VR]; exact ⟨none, by simp [hlen]⟩) (by simp only [UR]) (by simp only [BlkR, List.nil_append]; exact ⟨by trivial, he⟩)⟩
              · simp only [hemp]
                rw [if_neg hem]
                have hl0 := he0.1
                rw [if_pos (by simp only [hc0 hb0, Bool.true_and, decide_eq_true_eq]; exact ⟨by trivial, by rw [hlen, hl0]; exact hb1, by rw [hlen, hl0]; exact hb2, hs⟩)]
                exact ⟨_, rfl, rfl, RR.one (by simp only [VR]; exact ⟨none, by rw [hlen, hl0]⟩) (by simp only [UR]) (by simp only [BlkR]; exact ⟨by trivial, EncE_append he0 he⟩)⟩
            · cases h
          · cases h
      · cases h
    · rename_i i s' n'
      split at h
      · rename_i ks' l' hi
        split at h
        · rename_i hcnd
          obtain ⟨hk, rfl, hs⟩ := hcnd
          have := keqs_eq _ _ hk
          subst this
          simp only [T.run] at h
          have ha0 := ha
          simp only [VR] at ha
          obtain ⟨cap, rfl⟩ := ha
          have hli := hl i
          rw [hi] at hli
          obtain ⟨B, hB, hr⟩ := OR_some hli
          obtain ⟨s', es0, fl, rfl⟩ := BlkR_row hr
          simp only [BlkR] at hr
          obtain ⟨rfl, he0⟩ := hr
          have hl0 := he0.1
          split at h
          · rename_i hem
            cases h
            simp only [hemp, hem, if_true]
            exact ⟨_, rfl, rfl, RR.plain ha0⟩
          · rename_i hem
            split at h
            · rename_i hb
              cases h
              simp only [decide_eq_true_eq] at hb
              obtain ⟨hb0, hb1, hb2⟩ := hb
              simp only [hemp, hB]
              rw [if_neg hem, if_pos ⟨by trivial, by trivial, by trivial, by omega, by omega, by rw [hlen]; exact hb2, hs⟩]
              exact ⟨_, rfl, rfl, RR.one (by simp only [VR]; exact ⟨none, by rw [hlen]⟩) (by simp only [UR]; exact ⟨_, _, rfl, rfl, by simp only [OR], rfl⟩) (by simp only [BlkR]; exact ⟨by trivial, EncE_append (EncE_take _ he0) he⟩)⟩
            · cases h
        · cases h
      · cases h
    · cases h
  | copy d x sz => cases h
  | call f args =>
    simp only [MR] at hm
    obtain ⟨as, rfl, hv⟩ := hm
    simp only [actS] at h
    split at h
    · rename_i F hext hwr hsp
      obtain ⟨hneed, h⟩ := T.run_needs _ _ _ h
      rw [T.run_map, Option.map_eq_some_iff] at h
      obtain ⟨⟨v, hb⟩, hF, rfl⟩ := h
      have hargs : VRL (args.map (fzS ls deep)) (as.map (fz l deep)) := by
        clear hF hsp h
        induction args generalizing as with
        | nil => simp only [VRL] at hv; subst hv; exact VRL_nil
        | cons c cs ih =>
          simp only [VRL] at hv
          obtain ⟨u, us, rfl, h1, h2⟩ := hv
          exact VRL_cons (fz_sim hl deep c u h1 fun d hd => hneed d (by simp only [List.flatMap_cons, List.mem_append]; exact .inl hd)) (ih us h2 fun d hd => hneed d (by simp only [List.flatMap_cons, List.mem_append]; exact .inr hd))
      obtain ⟨v', h', hcall, hvv, hh⟩ := hS f F hsp _ _ _ hF _ hargs
      refine ⟨⟨mv true true (back [] at_) deep v', [], (handBack [] at_ h').2, s⟩, ?_, rfl, ?_⟩
      · simp only [act, hext, hwr, hcall]
      · refine ⟨by exact mv_sim true true (back [] at_) deep v v' hvv, by simp only [UR], ?_, fun i b B h1 h2 => ?_⟩
        · simp [handBackS, handBack, hh.1]
        · simp only [handBackS, handBack, List.drop_zero, List.length_nil] at h1 h2
          rw [List.getElem?_map] at h1 h2
          have := hh.2 i
          simp only [sget, hget] at this
          cases e1 : hb[i]? with
          | none => rw [e1] at h1; cases h1
          | some o1 =>
            cases e2 : h'[i]? with
            | none => rw [e2] at h2; cases h2
            | some o2 =>
              rw [e1] at h1; rw [e2] at h2
              rw [e1, e2] at this
              simp only [Option.map_some, Option.some.injEq] at h1 h2
              subst h1; subst h2
              simp only [Option.getD_some] at this
              cases o1 with
              | none => have e := OR_none this; subst e; trivial
              | some b1 =>
                obtain ⟨B1, rfl, hr⟩ := OR_some this
                exact mvB_sim true true _ hr
    · cases h
end Go.Lite
