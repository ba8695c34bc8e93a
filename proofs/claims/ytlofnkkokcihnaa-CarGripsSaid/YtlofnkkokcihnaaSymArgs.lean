import Derived.Test.YtlofnkkokcihnaaSymKit
import Derived.Test.YtlofnkkokcihnaaLiteArgs
namespace Go.Lite

/-! ### What a law's arguments are -/
theorem EncC_congr : ∀ {ks : List K} {c c' : List D} {j j' : Nat} {vs : List AV}, (∀ i, i < ks.length → c.getD (j + i) default = c'.getD (j' + i) default) → EncC ks c j vs → EncC ks c' j' vs
  | [], _, _, _, _, _, _, h => by simpa only [EncC] using h
  | k :: ks, c, c', j, j', vs, he, h => by
    simp only [EncC] at h ⊢
    obtain ⟨v, vs', rfl, h1, h2⟩ := h
    refine ⟨v, vs', rfl, ?_, EncC_congr (fun i hi => ?_) h2⟩
    · have := he 0 (by simp)
      simp only [Nat.add_zero] at this
      rw [← this]; exact h1
    · have := he (i + 1) (by simp; omega)
      rw [show j + 1 + i = j + (i + 1) by omega, show j' + 1 + i = j' + (i + 1) by omega]
      exact this
theorem EncC_app : ∀ {a b : List K} {c : List D} {j : Nat} {p q : List AV}, EncC a c j p → EncC b c (j + a.length) q → EncC (a ++ b) c j (p ++ q)
  | [], b, c, j, p, q, h1, h2 => by
    simp only [EncC] at h1; subst h1
    simpa using h2
  | k :: a, b, c, j, p, q, h1, h2 => by
    simp only [EncC] at h1
    obtain ⟨v, vs', rfl, h3, h4⟩ := h1
    simp only [List.cons_append, EncC]
    refine ⟨v, vs' ++ q, rfl, h3, EncC_app h4 ?_⟩
    rw [show j + 1 + a.length = j + (k :: a).length by simp; omega]
    exact h2
def sized (P : Program) : Nat → TypeId → Bool
  | 0, _ => false
  | d + 1, t => match P.underlying t with
    | some .bool => true
    | some (.int _) => true
    | some (.slice e) => ((kindOf P d e).map List.length == some (P.cellsOf e)) && sized P d e
    | some (.struct fs) => fs.toList.all fun f => sized P d f.type
    | _ => false
theorem shape_enc (P : Program) : ∀ (d d' : Nat) (t : TypeId) (as : List AV) (ks : List K), Shape P d t as → kindOf P d' t = some ks → sized P d' t = true → ∃ ds : List D, ds.length = ks.length ∧ EncC ks ds 0 as := by
  intro d
  induction d with
  | zero => intro d' t as ks h; exact h.elim
  | succ d ih =>
    intro d' t as ks h hk hz
    cases d' with
    | zero => cases hk
    | succ d' =>
      unfold Shape at h
      unfold kindOf at hk
      unfold sized at hz
      split at h
      · rename_i hu
        rw [hu] at hk hz
        simp only [Option.some.injEq] at hk
        subst hk
        obtain ⟨b, rfl⟩ := h
        exact ⟨[.b b], rfl, _, _, rfl, rfl, rfl⟩
      · rename_i k hu
        rw [hu] at hk hz
        simp only [Option.some.injEq] at hk
        subst hk
        obtain ⟨n, rfl, _⟩ := h
        exact ⟨[.i n], rfl, _, _, rfl, rfl, rfl⟩
      · rename_i e hu
        rw [hu] at hk hz
        simp only [Option.map_eq_some_iff] at hk
        obtain ⟨ks', hk', rfl⟩ := hk
        obtain ⟨es, rfl, hl, hes⟩ := h
        simp only [Bool.and_eq_true, beq_iff_eq, hk', Option.map_some, Option.some.injEq] at hz
        obtain ⟨l, hl1, hl2⟩ : ∃ l : List (List D), l.length = es.length ∧ ∀ (i : Nat) (x : List AV) (c : List D), es[i]? = some x → l[i]? = some c → c.length = ks'.length ∧ EncC ks' c 0 x := by
          refine exists_list es fun i x hx => ?_
          exact ih d' e x ks' (hes x (List.mem_of_getElem? hx)) hk' hz.2
        have hcells : P.cellsOf e = ks'.length := hz.1.symm
        refine ⟨[.l l], rfl, _, _, rfl, ?_, rfl⟩
        simp only [List.getD_cons_zero, EncV, D.L]
        refine .inr ⟨_, _, _, by rw [hcells], hl1.symm, fun i x c h1 h2 => (hl2 i x c h1 h2).2⟩
      · rename_i fs hu
        rw [hu] at hk hz
        simp only [List.all_eq_true] at hk hz
        generalize fs.toList = fl at h hk hz
        clear hu
        induction fl generalizing as ks with
        | nil =>
          simp only [Parts] at h
          simp only [kindF, Option.some.injEq] at hk
          subst h hk
          exact ⟨[], rfl, rfl⟩
        | cons f fl ihf =>
          simp only [Parts] at h
          simp only [kindF] at hk
          obtain ⟨p, q, rfl, h1, h2⟩ := h
          split at hk
          · rename_i a b ha hb
            simp only [Option.some.injEq] at hk
            subst hk
            obtain ⟨x, hx1, hx2⟩ := ih d' _ p a h1 ha (hz f (by simp))
            obtain ⟨y, hy1, hy2⟩ := ihf q b h2 hb (fun g hg => hz g (by simp [hg]))
            refine ⟨x ++ y, by simp [hx1, hy1], EncC_app (EncC_congr (fun i hi => ?_) hx2) (EncC_congr (fun i hi => ?_) hy2)⟩
            · simp only [Nat.zero_add, List.getD_eq_getElem?_getD]
              rw [List.getElem?_append_left (by omega)]
            · simp only [Nat.zero_add, List.getD_eq_getElem?_getD]
              rw [List.getElem?_append_right (by omega), hx1]
              congr 2
              omega
          · cases hk
      · exact h.elim
theorem decFrom_eq : ∀ (ks : List K) (ds r : List D) (j : Nat) (c : List D), ds.length = ks.length → (∀ i, i < ks.length → c.getD (j + i) default = ds.getD i default) → (headVs (ks.map .k) (ds ++ r)) = (decFrom ks c j, r)
  | [], ds, r, j, c, hl, _ => by
    cases ds with
    | nil => rfl
    | cons d ds => simp at hl
  | k :: ks, ds, r, j, c, hl, hc => by
    cases ds with
    | nil => simp at hl
    | cons d ds =>
      have := decFrom_eq ks ds r (j + 1) c (by simpa using hl) (fun i hi => by
        have := hc (i + 1) (by simp; omega)
        rw [show j + 1 + i = j + (i + 1) by omega, this]
        simp)
      simp only [List.map_cons, headVs, headV, List.cons_append, List.headD_cons, List.tail_cons, decFrom, this]
      have h0 := hc 0 (by simp)
      simp only [Nat.add_zero, List.getD_cons_zero] at h0
      rw [h0]
def kindsN (P : Program) (t : TypeId) : Nat := ((kindOf P 12 t).getD []).length
def argFit (P : Program) (t : TypeId) : Bool := (kindOf P 12 t).isSome && sized P 12 t && (tyAgg P t || kindsN P t == 1)
theorem args_enc (P : Program) (d : Nat) : ∀ (ts : List TypeId) (xs : List AV) (r : List D), ArgsShape P d ts xs → (∀ t ∈ ts, argFit P t = true) → ∃ ds : List D, ds.length = (ts.map (kindsN P)).sum ∧ VRL (headVs (ts.map (argSK P)) (ds ++ r)).1 xs ∧ (headVs (ts.map (argSK P)) (ds ++ r)).2 = r
  | [], xs, r, h, _ => by
    simp only [ArgsShape] at h; subst h
    exact ⟨[], rfl, rfl, rfl⟩
  | t :: ts, xs, r, h, hf => by
    simp only [ArgsShape] at h
    obtain ⟨cs, rest, rfl, h1, h2⟩ := h
    obtain ⟨ds2, hl2, hv2, hr2⟩ := args_enc P d ts rest r h2 (fun t ht => hf t (by simp [ht]))
    have hft := hf t (by simp)
    simp only [argFit, Bool.and_eq_true, Bool.or_eq_true, beq_iff_eq] at hft
    obtain ⟨⟨hk, hz⟩, hg⟩ := hft
    obtain ⟨ks, hks⟩ := Option.isSome_iff_exists.1 hk
    obtain ⟨ds1, hl1, he⟩ := shape_enc P d 12 t cs ks h1 hks hz
    have hkn : kindsN P t = ks.length := by simp [kindsN, hks]
    have hdec := decFrom_eq ks ds1 (ds2 ++ r) 0 ds1 hl1 (fun i hi => by simp)
    have hvr := EncC_dec he
    have key : VR (headV (argSK P t) (ds1 ++ (ds2 ++ r))).1 (argOf P t cs) ∧ (headV (argSK P t) (ds1 ++ (ds2 ++ r))).2 = ds2 ++ r := by
      unfold argSK argOf
      rw [hks]
      simp only
      split
      · simp only [headV, hdec, VR]
        exact ⟨⟨cs, rfl, hvr⟩, trivial⟩
      · rename_i hag
        have h1k : ks.length = 1 := by rw [← hkn]; exact hg.resolve_left (by simpa using hag)
        match ks, h1k with
        | [k], _ =>
          match ds1, hl1 with
          | [x], _ =>
            simp only [EncC] at he
            obtain ⟨v, vs', rfl, h3, rfl⟩ := he
            simp only [List.headD_cons, headV, List.cons_append, List.nil_append, List.tail_cons]
            exact ⟨EncV_dec h3, trivial⟩
    refine ⟨ds1 ++ ds2, by simp [hl1, hl2, hkn], ?_, ?_⟩
    · simp only [List.map_cons, headVs, List.append_assoc]
      rw [key.2]
      exact ⟨_, _, rfl, key.1, hv2⟩
    · simp only [List.map_cons, headVs, List.append_assoc]
      rw [key.2]
      exact hr2
/-- A law that answers true, by its tree. -/
theorem law_true {C : Cfg} (hC : ∀ t Y, C.ty t = some Y → tyOf C.P t = some Y) {sp : SpL} {lp : LpL} {n : Nat} {f : FuncId} (hsp : AllOK C n sp) (hf : hasBody C.P f = true) (keys : List Nat) (h1 : loopsIn (bodyAt C.P f) = keys.map (loopOf C.P f)) (h2 : keys.map (fun k => keyOf (loopOf C.P f k)) = keys)
    (hl : ∀ k ∈ keys, ∀ L, lpOf lp k = some L → LoopSim C n f (loopOf C.P f k) L) {ts : List TypeId} {ks : List SK} (hks : ks = ts.map (argSK C.P)) (hfit : ∀ t ∈ ts, argFit C.P t = true) {m : Nat} (hm : (ts.map (kindsN C.P)).sum = m)
    (hrun : ∀ ds : List D, ds.length = m → (fnT C (mkTab sp lp) f ⟨ks, [(.k .bool, [])]⟩ ds).run = some [D.b true]) (d : Nat) (xs : List AV) (hx : ArgsShape C.P d ts xs) : ∃ n h', callA C n Unit none f xs [] () = some (.bool true, h', ()) := by
  obtain ⟨ds, hlen, hv, -⟩ := args_enc C.P d ts xs [] hx hfit
  rw [List.append_nil, ← hks] at hv
  have hr := hrun ds (hlen.trans hm)
  unfold fnT at hr
  rw [T.run_bind, Option.bind_eq_some_iff] at hr
  obtain ⟨⟨v0, h0⟩, hc, hfr⟩ := hr
  rw [T.run_ofO] at hfr
  obtain ⟨fn, h3, h4⟩ := hasBody_spec hf
  obtain ⟨v', h', h5, h6, h7⟩ := call_sim hC (spOK_of hsp) h3 h4 (loops_of keys h1 h2 hl) _ _ _ hc xs hv
  have h8 := (fitsR_sim hfr h6 h7).1
  refine ⟨n + 1, h', ?_⟩
  rw [h5]
  have : v' = .bool true := h8
  rw [this]
end Go.Lite
