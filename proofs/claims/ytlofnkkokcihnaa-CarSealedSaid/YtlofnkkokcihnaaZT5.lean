/-
  What the claim car_sealed rests on, part 5.
-/
import Derived.Test.YtlofnkkokcihnaaZT4
namespace Go.Lite
theorem flatV_noIds {a : AV} (h : flatV a = true) : noIds a := by
  cases a <;> first | (simp [flatV] at h; done) | exact noIds_plain fun _ => rfl
theorem flatL_noIds : ∀ {vs : List AV}, flatL vs = true → ∀ v ∈ vs, noIds v
  | v :: vs, h, u, hu => by
    simp only [flatL, Bool.and_eq_true] at h
    rcases List.mem_cons.1 hu with rfl | hu
    · exact flatV_noIds h.1
    · exact flatL_noIds h.2 u hu
theorem okS_sim {c : SV} {v : AV} (hc : okS c = true) (h : VR c v) : okV v = true := by
  cases c <;> simp only [okS, Bool.false_eq_true] at hc <;> simp only [VR] at h
  case eptr => obtain ⟨_, _, rfl, _⟩ := h; rfl
  case ro => rcases h with ⟨rfl, _⟩ | ⟨_, _, _, rfl, _⟩ <;> rfl
  case emp => rcases h with rfl | rfl <;> rfl
  case sl => obtain ⟨_, rfl⟩ := h; rfl
  case sub => obtain ⟨_, rfl⟩ := h; rfl
  case fn => obtain ⟨_, _, rfl, _⟩ := h; rfl
  case ifc => obtain ⟨_, rfl, _⟩ := h; rfl
  case opt => rcases h with ⟨_, rfl⟩ | ⟨_, _, _, _, _, rfl, _⟩ <;> rfl
  case alt => obtain ⟨_, _, rfl⟩ := EncA_ifc h; rfl
  all_goals (subst h; rfl)
theorem okSL_sim : ∀ {cs : List SV} {vs : List AV}, okSL cs = true → VRL cs vs → okL vs = true
  | [], _, _, h => by simp only [VRL] at h; subst h; rfl
  | c :: cs, _, hc, h => by
    simp only [okSL, Bool.and_eq_true] at hc
    simp only [VRL] at h
    obtain ⟨v, vs', rfl, h1, h2⟩ := h
    simp only [okL, okS_sim hc.1 h1, okSL_sim hc.2 h2, Bool.and_self]
theorem toD1_ok {k : K} {v : SV} {d : D} (h : toD1 k v = some d) : okS v = true := by
  unfold toD1 at h
  split at h <;> first | rfl | cases h
theorem toD2_ok {k : K} {v : SV} {d : D} (h : toD2 k v = some d) : okS v = true := by
  unfold toD2 at h
  split at h
  · rfl
  · exact toD1_ok h
theorem toD_ok {k : K} {v : SV} {d : D} (h : toD k v = some d) : okS v = true := by
  unfold toD at h
  split at h
  · rfl
  · exact toD2_ok h
theorem toDs_ok : ∀ {ks : List K} {vs : List SV} {ds : List D}, toDs ks vs = some ds → okSL vs = true
  | [], [], _, _ => rfl
  | k :: ks, v :: vs, ds, h => by
    simp only [toDs] at h
    split at h
    · rename_i h1 h2; simp only [okSL, toD_ok h1, toDs_ok h2, Bool.and_self]
    · cases h
  | [], _ :: _, _, h => by simp [toDs] at h
  | _ :: _, [], _, h => by simp [toDs] at h
theorem lens_of {s : Nat} : ∀ {es : List (List AV)}, (∀ e ∈ es, e.length = s) → lens s es = true
  | [], _ => rfl
  | e :: es, h => by
    simp only [lens]
    rw [decide_eq_true (h e List.mem_cons_self), lens_of fun x hx => h x (List.mem_cons_of_mem _ hx)]
    rfl
theorem flatE_mem : ∀ {es : List (List AV)}, flatE es = true → ∀ e ∈ es, flatL e = true
  | e :: es, h, x, hx => by
    simp only [flatE, Bool.and_eq_true] at h
    rcases List.mem_cons.1 hx with rfl | hx
    · exact h.1
    · exact flatE_mem h.2 x hx
structure RR {S : Type} (r : RS) (r' : Res S) : Prop where
  v : VR r.v r'.v
  ups : UR r.ups r'.ups
  len : r.news.length = r'.news.length
  news : ∀ (i : Nat) b B, r.news[i]? = some b → r'.news[i]? = some B → OR b B
theorem RR.plain {S : Type} {v : SV} {a : AV} {s : S} (h : VR v a) : RR ⟨v, [], []⟩ (⟨a, [], [], s⟩ : Res S) := ⟨h, by simp only [UR], rfl, fun i b B h => by simp at h⟩
theorem RR.one {S : Type} {v : SV} {a : AV} {s : S} {b : SB} {B : Blk} {us : List (Nat × Option SB)} {us' : List (Nat × Option Blk)} (h : VR v a) (hu : UR us us') (hb : BlkR b B) : RR ⟨v, us, [some b]⟩ (⟨a, us', [some B], s⟩ : Res S) :=
  ⟨h, hu, rfl, fun i b' B' h1 h2 => by
    cases i with
    | zero => simp at h1 h2; subst h1; subst h2; exact hb
    | succ i => simp at h1⟩
theorem RR.upd {S : Type} {v : SV} {a : AV} {s : S} {i : Nat} {b : SB} {B : Blk} (h : VR v a) (hb : BlkR b B) : RR ⟨v, [(i, some b)], []⟩ (⟨a, [(i, some B)], [], s⟩ : Res S) :=
  ⟨h, by simp only [UR]; exact ⟨_, _, rfl, rfl, hb, rfl⟩, rfl, fun i b B h => by simp at h⟩
def YOK (Y : YS) : Prop := ∀ cargs ch d, Y.fit cargs ch = some d → ∀ ya yh, VRL cargs ya → HR ch yh → VRL (Y.head d).1 ya ∧ HR (Y.head d).2 yh
def ConsOK (Y : Option YS) (q : Nat) {S : Type} (H : Option (Hd S)) (P : Nat → S → Prop) (L : List (List D)) : Prop := ∀ j d, L[j]? = some d → ∀ Y0, Y = some Y0 → ∃ Hf, H = some Hf ∧ ∀ s, P j s → ∀ ya yh, VRL (Y0.head d).1 ya → HR (Y0.head d).2 yh →
  ∃ nh s', Hf ya yh s = some (.bool (!(j == q)), nh, s') ∧ P (j + 1) s' ∧ (Y0.give = true → HR (Y0.head d).2 nh) ∧ (Y0.give = false → ∀ i, hget nh i = none)
def SpyOK (C : Cfg) (n : Nat) (Y : Option YS) (q : Nat) (f : FuncId) (F : List SV → SHeap → List (List D) → T ((SV × SHeap) × List (List D))) : Prop := ∀ args h lg r nw, (F args h lg).run = some (r, nw) → ∀ avs h0, VRL args avs → HR h h0 →
  ∀ (S : Type) (H : Option (Hd S)) (P : Nat → S → Prop) (L : List (List D)), ConsOK Y q H P L → lg ++ nw <+: L → ∀ s, P lg.length s → ∃ v' h' s', callA C n S H f avs h0 s = some (v', h', s') ∧ P (lg ++ nw).length s' ∧ VR r.1 v' ∧ HR r.2 h'
def SpOK (C : Cfg) (tab : Tab) (n : Nat) : Prop := (∀ f F, tab.sp f = some F → ∀ args v hb, (F args).run = some (v, hb) → ∀ avs, VRL args avs →
  ∃ v' h', callA C n Unit none f avs [] () = some (v', h', ()) ∧ VR v v' ∧ HR hb h') ∧
  ((∀ f F, tab.spw f = some F → ∀ args h v hb, (F args h).run = some (v, hb) → ∀ avs h0, VRL args avs → HR h h0 → ∀ (S : Type) (H : Option (Hd S)) (s : S),
    ∃ v' h', callA C n S H f avs h0 s = some (v', h', s) ∧ VR v v' ∧ HR hb h') ∧ ∀ f F, tab.spy f = some F → SpyOK C n tab.y tab.q f F) ∧ ∀ Y, tab.y = some Y → YOK Y
theorem OR.map {b : Option SB} {B : Option Blk} (h : OR b B) (ρ : Nat → Option Nat) {kb ky : Bool} : OR (b.map (mvSB kb ky ρ)) (B.map (mvB kb ky ρ)) := by
  cases b with
  | none => rw [OR_none h]; trivial
  | some b =>
    obtain ⟨B', rfl, hr⟩ := OR_some h
    exact mvB_sim kb ky _ hr
theorem handIn_sim {ls : Nat → Option SB} {l : Nat → Option Blk} (hl : ∀ i, OR (ls i) (l i)) (flags : List Bool) {args : List SV} {as : List AV} (hv : VRL args as) (hn : ∀ c ∈ handInN ls flags args, c = true) :
    (handIn l flags as).1 = (handInS ls flags args).1 ∧ VRL (handInS ls flags args).2.1 (handIn l flags as).2.1 ∧ HR (handInS ls flags args).2.2 (handIn l flags as).2.2 := by
  have hlen := VRL_length hv
  have hids : ∀ (fl : List Bool) {args : List SV} {as : List AV}, VRL args as → ((as.zip fl).flatMap fun p => if p.2 then ids deep p.1 else []) = (args.zip fl).flatMap fun p => if p.2 then idsS deep p.1 else [] := by
    intro fl
    induction fl with
    | nil => intro args as _; simp
    | cons b fl ih =>
      intro args as h
      cases args with
      | nil => simp only [VRL] at h; subst h; rfl
      | cons c cs =>
        simp only [VRL] at h
        obtain ⟨v, vs, rfl, h1, h2⟩ := h
        simp only [List.zip_cons_cons, List.flatMap_cons, ih h2, ids_eq deep c v h1]
  have hms : (handIn l flags as).1 = (handInS ls flags args).1 := by
    simp only [handIn, handInS, hlen, hids _ hv]
    exact reach_eq hl _ _ _
  refine ⟨hms, ?_, ?_⟩
  · simp only [handInN] at hn
    simp only [handIn, handInS] at hms ⊢
    rw [hms, ← hlen]
    clear hms
    generalize reachS ls wide _ [] = ms at hn ⊢
    generalize flags ++ List.replicate args.length false = fl at hn ⊢
    clear hlen
    induction fl generalizing args as with
    | nil => simp [VRL]
    | cons b fl ih =>
      cases args with
      | nil => simp only [VRL] at hv; subst hv; exact VRL_nil
      | cons c cs =>
        simp only [VRL] at hv
        obtain ⟨v, vs, rfl, h1, h2⟩ := hv
        simp only [List.zip_cons_cons, List.flatMap_cons, List.mem_append, List.map_cons] at hn ⊢
        refine VRL_cons ?_ (ih h2 fun d hd => hn d (.inr hd))
        cases b with
        | true => exact mv_sim true true _ deep c v h1
        | false =>
          simp only [Bool.false_eq_true, if_false]
          refine fz_sim (fun i => ?_) deep c v h1 fun d hd => hn d (.inl (by simpa using hd))
          split
          · trivial
          · exact hl i
  · simp only [handIn, handInS] at hms ⊢
    rw [hms]
    refine ⟨by simp, fun i => ?_⟩
    simp only [sget, hget, List.getElem?_map]
    cases (reachS ls wide _ [])[i]? with
    | none => trivial
    | some m => exact (hl m).map _
theorem handBack_sim (ms : List Nat) (at_ : Nat) {nh : SHeap} {h : Heap} (hh : HR nh h) : UR (handBackW ms at_ nh).1 (handBack ms at_ h).1 ∧ (handBackW ms at_ nh).2.length = (handBack ms at_ h).2.length ∧
    ∀ (i : Nat) b B, (handBackW ms at_ nh).2[i]? = some b → (handBack ms at_ h).2[i]? = some B → OR b B := by
  refine ⟨?_, by simp [handBackW, handBack, hh.1], fun i b B h1 h2 => ?_⟩
  · simp only [handBackW, handBack]
    generalize ms.zip (List.range ms.length) = l
    generalize back ms at_ = ρ
    induction l with
    | nil => simp only [List.map_nil, UR]
    | cons p l ih =>
      simp only [List.map_cons, UR]
      exact ⟨_, _, rfl, rfl, (hh.2 p.2).map _, ih⟩
  · simp only [handBackW, handBack, List.getElem?_map, List.getElem?_drop] at h1 h2
    have := hh.2 (ms.length + i)
    simp only [sget, hget] at this
    cases e1 : nh[ms.length + i]? with
    | none => rw [e1] at h1; cases h1
    | some o1 =>
      cases e2 : h[ms.length + i]? with
      | none => rw [e2] at h2; cases h2
      | some o2 =>
        rw [e1] at h1; rw [e2] at h2
        rw [e1, e2] at this
        simp only [Option.map_some, Option.some.injEq] at h1 h2
        subst h1; subst h2
        exact this.map _
theorem contents_sim {ls : Nat → Option SB} {l : Nat → Option Blk} (hl : ∀ i, OR (ls i) (l i)) {ks : List K} {x : SV} {a : AV} {xs : List (List D)} (h : (contentsS ls ks x).run = some xs) (hx : VR x a) : ∃ es fx, contents l ks.length a = some (es, fx) ∧ EncE ks xs es := by
  unfold contentsS at h
  split at h
  · cases h
    simp only [VR] at hx; subst hx
    exact ⟨[], true, rfl, EncE_nil⟩
  · split at h
    · rename_i hs
      cases h
      simp only [VR] at hx
      subst hs
      rcases hx with rfl | rfl
      · exact ⟨[], true, rfl, EncE_nil⟩
      · exact ⟨[], _, by simp only [contents, if_true] <;> rfl, EncE_nil⟩
    · cases h
  · rename_i c0 ks' l'
    split at h
    · rename_i hk
      cases h
      have := keqs_eq _ _ hk
      subst this
      simp only [VR] at hx
      rcases hx with ⟨rfl, rfl⟩ | ⟨kd, c0', es, rfl, _, he⟩
      · exact ⟨[], true, rfl, EncE_nil⟩
      · exact ⟨es, _, by simp only [contents, if_true] <;> rfl, he⟩
    · cases h
  · rename_i i s n
    split at h
    · rename_i ks' l' hi
      split at h
      · rename_i hk
        obtain ⟨hk, rfl⟩ := hk
        have := keqs_eq _ _ hk
        subst this
        simp only [T.run] at h
        split at h
        · rename_i hn
          cases h
          simp only [decide_eq_true_eq] at hn
          simp only [VR] at hx
          obtain ⟨cap, rfl⟩ := hx
          have := hl i
          rw [hi] at this
          obtain ⟨B, hB, hr⟩ := OR_some this
          obtain ⟨s', es, fl, rfl⟩ := BlkR_row hr
          simp only [BlkR] at hr
          obtain ⟨rfl, he⟩ := hr
          refine ⟨_, _, by simp only [contents, hB]; rw [if_pos ⟨by trivial, by trivial, by have := he.1; omega⟩], by simpa using EncE_take n he⟩
        · cases h
      · cases h
    · cases h
  · rename_i i s lo n
    split at h
    · rename_i ks' l' hi
      split at h
      · rename_i hk
        obtain ⟨hk, rfl⟩ := hk
        have := keqs_eq _ _ hk
        subst this
        simp only [T.run] at h
        split at h
        · rename_i hn
          cases h
          simp only [decide_eq_true_eq] at hn
          simp only [VR] at hx
          obtain ⟨cap, rfl⟩ := hx
          have := hl i
          rw [hi] at this
          obtain ⟨B, hB, hr⟩ := OR_some this
          obtain ⟨s', es, fl, rfl⟩ := BlkR_row hr
          simp only [BlkR] at hr
          obtain ⟨rfl, he⟩ := hr
          refine ⟨_, _, by simp only [contents, hB]; rw [if_pos ⟨by trivial, by trivial, by have := he.1; omega⟩], EncE_take n (EncE_drop lo he)⟩
        · cases h
      · cases h
    · cases h
  · cases h
theorem EncE_isEmpty {ks : List K} {l : List (List D)} {es : List (List AV)} (h : EncE ks l es) : es.isEmpty = l.isEmpty := by
  have := h.1
  cases es <;> cases l <;> first | rfl | (simp at this)
theorem EncE_len0 {ks : List K} {l : List (List D)} {es : List (List AV)} (h : EncE ks l es) {i : Nat} (hi : i < l.length) : ∃ e, es[i]? = some e ∧ EncC ks (l.getD i []) 0 e := by
  have hl := h.1
  have hi' : i < es.length := by omega
  refine ⟨es[i], List.getElem?_eq_getElem hi', h.2 i _ _ (List.getElem?_eq_getElem hi') ?_⟩
  rw [List.getD_eq_getElem?_getD, List.getElem?_eq_getElem hi]; rfl
theorem EncE_set {ks : List K} {l : List (List D)} {es : List (List AV)} (h : EncE ks l es) (i : Nat) {c : List D} {e : List AV} (hc : EncC ks c 0 e) : EncE ks (l.set i c) (es.set i e) := by
  refine ⟨by simp [h.1], fun j e' c' he hc' => ?_⟩
  rw [List.getElem?_set] at he hc'
  split at he
  · rename_i hij
    rw [if_pos hij] at hc'
    split at he
    · rename_i hlt
      rw [if_pos (by rw [← h.1]; exact hlt)] at hc'
      cases he; cases hc'; exact hc
    · cases he
  · rename_i hij
    rw [if_neg hij] at hc'
    exact h.2 j e' c' he hc'
theorem EncC_get : ∀ {ks : List K} {c : List D} {j q : Nat} {vs : List AV} {k : K}, EncC ks c j vs → ks[q]? = some k → ∃ v, vs[q]? = some v ∧ EncV k (c.getD (j + q) default) v
  | k :: ks, c, j, q, vs, k', h, hk => by
    simp only [EncC] at h
    obtain ⟨v, vs', rfl, h1, h2⟩ := h
    cases q with
    | zero => simp at hk; subst hk; exact ⟨v, rfl, h1⟩
    | succ q =>
      simp at hk
      obtain ⟨v', h3, h4⟩ := EncC_get h2 hk
      exact ⟨v', by simpa using h3, by rw [show j + (q + 1) = j + 1 + q by omega]; exact h4⟩
  | [], _, _, _, _, _, _, hk => by simp at hk
theorem EncC_mk : ∀ {ks : List K} {c : List D} {j : Nat} {vs : List AV}, vs.length = ks.length → (∀ (q : Nat) k v, ks[q]? = some k → vs[q]? = some v → EncV k (c.getD (j + q) default) v) → EncC ks c j vs
  | [], c, j, vs, hl, _ => by simp only [EncC]; exact List.length_eq_zero_iff.1 hl
  | k :: ks, c, j, v :: vs, hl, h => by
    simp only [EncC]
    refine ⟨v, vs, rfl, by simpa using h 0 k v rfl rfl, EncC_mk (by simpa using hl) fun q k' v' h1 h2 => ?_⟩
    have := h (q + 1) k' v' (by simpa using h1) (by simpa using h2)
    rw [show j + 1 + q = j + (q + 1) by omega]; exact this
  | k :: ks, c, j, [], hl, _ => by simp at hl
theorem updC_get (c ds : List D) (j : Nat) : ∀ (n q i : Nat), i < n → (updC c ds j q n)[i]? = some (if j ≤ q + i ∧ q + i < j + ds.length then ds.getD (q + i - j) default else c.getD (q + i) default)
  | n + 1, q, i, hi => by
    cases i with
    | zero => simp [updC]
    | succ i =>
      simp only [updC, List.getElem?_cons_succ]
      rw [updC_get c ds j n (q + 1) i (by omega)]
      rw [show q + 1 + i = q + (i + 1) by omega]
theorem EncC_upd {ks : List K} {c ds : List D} {j : Nat} {e : List AV} {vs : List SV} {as : List AV} (h : EncC ks c 0 e) (hd : toDs ((ks.drop j).take vs.length) vs = some ds) (hv : VRL vs as) (hj : j + vs.length ≤ ks.length) :
    EncC ks (updC c ds j 0 ks.length) 0 (e.take j ++ as ++ e.drop (j + as.length)) := by
  have hel := EncC_length h
  have hal := VRL_length hv
  obtain ⟨hdl, _⟩ := toDs_length hd
  have hdl' : ds.length = vs.length := by rw [hdl]; simp; omega
  have henc := toDs_enc (c := ds) (j := 0) hd hv (fun i d h => by simpa using h)
  refine EncC_mk (by simp; omega) fun q k v hk hq => ?_
  have hqk : q < ks.length := (List.getElem?_eq_some_iff.1 hk).1
  have hu := updC_get c ds j ks.length 0 q hqk
  simp only [Nat.zero_add] at hu ⊢
  rw [List.getD_eq_getElem?_getD, hu]
  simp only [Option.getD_some]
  by_cases hc : j ≤ q ∧ q < j + ds.length
  · rw [if_pos hc]
    have : (e.take j ++ as ++ e.drop (j + as.length))[q]? = as[q - j]? := by
      rw [List.getElem?_append_left (by simp; omega), List.getElem?_append_right (by simp; omega)]
      congr 1
      simp; omega
    rw [this] at hq
    have hk' : ((ks.drop j).take vs.length)[q - j]? = some k := by
      rw [List.getElem?_take, if_pos (by omega), List.getElem?_drop, show j + (q - j) = q by omega]; exact hk
    obtain ⟨v', h1, h2⟩ := EncC_get henc hk'
    rw [hq] at h1; cases h1
    simpa using h2
  · rw [if_neg hc]
    obtain ⟨v', h1, h2⟩ := EncC_get h hk
    have : (e.take j ++ as ++ e.drop (j + as.length))[q]? = e[q]? := by
      by_cases hlt : q < j
      · rw [List.getElem?_append_left (by simp; omega), List.getElem?_append_left (by simp; omega), List.getElem?_take, if_pos hlt]
      · rw [List.getElem?_append_right (by simp; omega), List.getElem?_drop]
        congr 1
        simp; omega
    rw [this, h1] at hq
    cases hq
    simpa using h2
theorem loadVS_sim {ls : Nat → Option SB} {l : Nat → Option Blk} (hl : ∀ i, OR (ls i) (l i)) {i s k j : Nat} {agg : Bool} {n : Nat} {v : SV} (h : (loadVS ls i s k j agg n).run = some v) : ∃ u, loadV l i s k j agg n = some u ∧ VR v u := by
  unfold loadVS at h
  unfold loadV
  have hli := OR_unB (hl i)
  split at h
  · rename_i cs hi
    rw [hi] at hli
    obtain ⟨B, hB, hr⟩ := OR_some hli
    obtain ⟨s', es, fl, rfl⟩ := BlkR_row hr
    simp only [BlkR] at hr
    obtain ⟨vs, rfl, rfl, hv, -⟩ := hr
    split at h
    case isFalse => cases h
    rename_i hc
    obtain ⟨rfl, rfl⟩ := hc
    simp only [hB, if_true, List.getElem?_cons_zero]
    split at h
    · rename_i hag
      rw [if_pos hag]
      split at h
      · rename_i hle
        cases h
        rw [if_pos (by rw [← VRL_length hv]; exact hle)]
        exact ⟨_, rfl, by simp only [VR]; exact ⟨_, rfl, VRL_take _ (VRL_drop _ hv)⟩⟩
      · cases h
    · rename_i hag
      rw [if_neg hag]
      split at h
      · rename_i c hc
        cases h
        exact VRL_get hv hc
      · cases h
  · rename_i ks l' hi
    rw [hi] at hli
    obtain ⟨B, hB, hr⟩ := OR_some hli
    obtain ⟨s', es, fl, rfl⟩ := BlkR_row hr
    simp only [BlkR] at hr
    obtain ⟨rfl, he⟩ := hr
    split at h
    case isFalse => cases h
    rename_i hc
    subst hc
    simp only [T.run] at h
    split at h
    case isFalse => cases h
    rename_i hk
    simp only [decide_eq_true_eq] at hk
    obtain ⟨e, hge, hec⟩ := EncE_len0 he hk
    have hv := EncC_dec hec
    simp only [hB, if_true, hge]
    split at h
    · rename_i hag
      rw [if_pos hag]
      split at h
      · rename_i hle
        cases h
        rw [if_pos (by rw [EncC_length hec]; exact hle)]
        exact ⟨_, rfl, by simp only [VR]; exact ⟨_, rfl, VRL_take _ (VRL_drop _ hv)⟩⟩
      · cases h
    · rename_i hag
      rw [if_neg hag]
      split at h
      · rename_i c hc
        cases h
        exact VRL_get hv hc
      · cases h
  · rename_i s' es hi
    rw [hi] at hli
    obtain ⟨B, hB, hr⟩ := OR_some hli
    obtain ⟨s2, es2, fl, rfl⟩ := BlkR_row hr
    simp only [BlkR] at hr
    obtain ⟨rfl, hv, hlen, -⟩ := hr
    split at h
    case isFalse => cases h
    rename_i hs
    subst hs
    obtain ⟨p, -, hp, hkp, h⟩ := pickT_run _ _ h
    obtain rfl : k = p := by omega
    simp only [hB, if_true]
    split at h
    case h_2 => cases h
    rename_i cs hcs
    have hk : k < es2.length := by rw [← hv.1]; omega
    have hvv := hv.2 k cs _ hcs (List.getElem?_eq_getElem hk)
    rw [List.getElem?_eq_getElem hk]
    split at h
    · rename_i hag
      simp only [if_pos hag]
      split at h
      · rename_i hle
        cases h
        rw [if_pos (by rw [← VRL_length hvv]; exact hle)]
        exact ⟨_, rfl, by simp only [VR]; exact ⟨_, rfl, VRL_take _ (VRL_drop _ hvv)⟩⟩
      · cases h
    · rename_i hag
      simp only [if_neg hag]
      split at h
      · rename_i c hc
        cases h
        exact VRL_get hvv hc
      · cases h
  · cases h
theorem strike_sim {v : SV} {a : AV} (h : VR v a) : VR (strikeS v) (strike a) := mv_sim false true some deep v a h
theorem strikeH_sim {sh : SHeap} {h : Heap} (hh : HR sh h) : HR (strikeHS sh) (strikeH h) := by
  unfold strikeHS strikeH
  refine ⟨by simp [hh.1], fun i => ?_⟩
  have := hh.2 i
  simp only [sget, hget, List.getElem?_map] at this ⊢
  cases e1 : sh[i]? with
  | none =>
    cases e2 : h[i]? with
    | none => trivial
    | some o2 =>
      have h1 := (List.getElem?_eq_none_iff.1 e1); have h2 := (List.getElem?_eq_some_iff.1 e2).1; have := hh.1; omega
  | some o1 =>
    cases e2 : h[i]? with
    | none => have h1 := (List.getElem?_eq_none_iff.1 e2); have h2 := (List.getElem?_eq_some_iff.1 e1).1; have := hh.1; omega
    | some o2 =>
      rw [e1, e2] at this
      simp only [Option.getD_some] at this
      exact this.map some
theorem finishA_frz {C : Cfg} {f k : Nat} {fn : Func} {σ : St} {r : AV × Heap} (hz : C.frz f = true) (h : finishA C f k fn σ = some r) : strike r.1 = r.1 := by
  unfold finishA at h
  split at h
  · cases h
  rw [hz] at h
  simp only [if_true] at h
  split at h
  · cases h
  split at h
  · cases h; exact strike_fzg deep _
  · cases h
theorem callA_frz {C : Cfg} {n f : Nat} (hz : C.frz f = true) {S : Type} {H : Option (Hd S)} {as : List AV} {h0 : Heap} {s : S} {v : AV} {h1 : Heap} {s1 : S} (h : callA C n S H f as h0 s = some (v, h1, s1)) : strike v = v := by
  cases n with
  | zero => simp only [callA] at h; cases h
  | succ n =>
    have fin : ∀ {k : Nat} {fn : Func} {σ : St} {s' : S}, (finishA C f k fn σ).map (fun r => (r.1, r.2, s')) = some (v, h1, s1) → strike v = v := fun h => by
      rw [Option.map_eq_some_iff] at h
      obtain ⟨r, h2, h3⟩ := h
      cases h3
      exact finishA_frz hz h2
    unfold callA at h
    split at h
    · cases h
    split at h
    · cases h
    split at h
    · split at h
      case h_2 => cases h
      split at h
      · cases h
      · split at h
        · exact fin h
        · cases h
      · split at h
        · exact fin h
        · cases h
    · split at h
      · exact fin h
      · exact fin h
      · split at h
        · cases h; rfl
        · cases h
      · cases h
theorem callTS_sim {C : Cfg} {tab : Tab} {n : Nat} (hS : SpOK C tab n) {S : Type} {H : Option (Hd S)} {at_ : Nat} {ls : Nat → Option SB} {l : Nat → Option Blk} (hl : ∀ i, OR (ls i) (l i)) {f : FuncId} {args : List SV} {as : List AV} {r : RS} (s : S)
    (h : (callTS C tab at_ ls f args).run = some r) (hv : VRL args as) : ∃ r', actCall C (callA C n) H at_ l s f as = some r' ∧ r'.s = s ∧ RR r r' := by
  unfold callTS at h
  split at h
  · rename_i E hext
    split at h
    · rename_i b hb
      simp only [VRL] at hv
      subst hv
      cases h
      refine ⟨⟨.bool b, [], [], s⟩, ?_, rfl, RR.plain (by simp only [VR])⟩
      simp only [actCall, hext, List.map_nil, hb, Option.map_some]
      rfl
    · cases h
  · rename_i F hext hwr hsp
    obtain ⟨hneed, h⟩ := T.run_needs _ _ _ h
    rw [T.run_map, Option.map_eq_some_iff] at h
    obtain ⟨⟨v, hb⟩, hF, rfl⟩ := h
    have hargs : VRL (args.map (fzS ls deep)) (as.map (fz l deep)) := by
      clear hF hsp h
      induction args generalizing as with
      | nil => simp only [VRL] at hv; subst hv; exact VRL_nil
      | cons c cs ih =>
        simp only [VRL] at hv
        obtain ⟨u, us, rfl, h1, h2⟩ := hv
        exact VRL_cons (fz_sim hl deep c u h1 fun d hd => hneed d (by simp only [List.flatMap_cons, List.mem_append]; exact .inl hd)) (ih h2 fun d hd => hneed d (by simp only [List.flatMap_cons, List.mem_append]; exact .inr hd))
    obtain ⟨v', h', hcall, hvv, hh⟩ := hS.1 f F hsp _ _ _ hF _ hargs
    obtain ⟨u1, u2, u3⟩ := handBack_sim [] at_ (strikeH_sim hh)
    refine ⟨⟨mv true true (back [] at_) deep (strike v'), [], (handBack [] at_ (strikeH h')).2, s⟩, ?_, rfl, ?_⟩
    · simp only [actCall, hext, hwr, hcall]
    · refine ⟨mv_sim true true (back [] at_) deep _ _ ?_, by simp only [UR], u2, u3⟩
      by_cases hz : C.frz f = true
      · simp only [hz, if_true]
        rw [callA_frz hz hcall]
        exact hvv
      · simp only [if_neg hz]
        exact strike_sim hvv
  · rename_i b bs hext hwr
    split at h
    case h_2 => cases h
    rename_i F hsp
    obtain ⟨hneed, h⟩ := T.run_needs _ _ _ h
    obtain ⟨k1, k2, k3⟩ := handIn_sim hl (b :: bs) hv hneed
    rw [T.run_map, Option.map_eq_some_iff] at h
    obtain ⟨⟨v, hb⟩, hF, rfl⟩ := h
    obtain ⟨v', h', hcall, hvv, hh⟩ := hS.2.1.1 f F hsp _ _ _ _ hF _ _ k2 k3 S H s
    have hall : allOwn (b :: bs) as = (decide (args.length ≤ (b :: bs).length) && (b :: bs).all id) := by unfold allOwn; rw [VRL_length hv]
    simp only [actCall, hext, hwr, hcall, hall]
    generalize (decide (args.length ≤ (b :: bs).length) && (b :: bs).all id) = al
    cases al with
    | true =>
      obtain ⟨u1, u2, u3⟩ := handBack_sim (handInS ls (b :: bs) args).1 at_ hh
      refine ⟨_, rfl, rfl, ?_⟩
      rw [k1]
      exact ⟨mv_sim true true _ deep v v' hvv, u1, u2, u3⟩
    | false =>
      obtain ⟨u1, u2, u3⟩ := handBack_sim (handInS ls (b :: bs) args).1 at_ (strikeH_sim hh)
      refine ⟨_, rfl, rfl, ?_⟩
      rw [k1]
      exact ⟨mv_sim true true _ deep _ _ (strike_sim hvv), u1, u2, u3⟩
  · cases h
theorem EncE_cpy {ks : List K} {l xs : List (List D)} {es fs : List (List AV)} (h : EncE ks l es) (hx : EncE ks xs fs) (lo n : Nat) :
    EncE ks (cpy l xs lo n) (es.take lo ++ fs.take (min fs.length n) ++ es.drop (lo + min fs.length n)) := by
  have hl := hx.1
  cases xs with
  | nil =>
    have : fs = [] := by cases fs with | nil => rfl | cons a b => simp at hl
    subst this
    simpa [cpy] using h
  | cons x xs =>
    simp only [cpy]
    rw [← hl]
    exact EncE_append (EncE_append (EncE_take _ h) (EncE_take _ hx)) (EncE_drop _ h)
theorem arrC_get {k : IntKind} {n : Nat} {l : List (List D)} {tl : List SV} {p : Nat} (hp : p < n) : (arrC k n l ++ tl)[p]? = some (.int k ((l.getD p []).getD 0 default).I) := by
  rw [List.getElem?_append_left (by rw [length_arrC]; exact hp)]
  simp only [arrC, List.getElem?_map, List.getElem?_range hp, Option.map_some]
theorem arrC_set {k : IntKind} {n : Nat} {l : List (List D)} {tl : List SV} {p : Nat} {x : Int} (hp : p < n ∧ p < l.length) : arrC k n (l.set p [.i x]) ++ tl = (arrC k n l ++ tl).take p ++ [.int k x] ++ (arrC k n l ++ tl).drop (p + 1) := by
  have e : arrC k n (l.set p [.i x]) = (arrC k n l).set p (.int k x) := by
    refine List.ext_getElem (by simp [arrC]) fun q h1 h2 => ?_
    simp only [arrC, List.getElem_map, List.getElem_range, List.getElem_set, List.getD_eq_getElem?_getD, List.getElem?_set]
    by_cases e : p = q
    · subst e
      simp [hp.2, D.I]
    · simp [e]
  rw [e, ← List.set_append_left _ _ (by rw [length_arrC]; exact hp.1), List.set_eq_take_append_cons_drop, if_pos (by rw [List.length_append, length_arrC]; omega)]
  simp
theorem act_load {C : Cfg} (call : CallT) {S : Type} (H : Option (Hd S)) (at_ : Nat) (l : Nat → Option Blk) (s : S) {i sz k j : Nat} {agg : Bool} {n : Nat} : (loadV l i sz k j agg n).map (fun v => (⟨v, [], [], s⟩ : Res S)) = act C call H at_ l s (.load i sz k j agg n) := by
  simp only [loadV, act]
  split
  · split
    · split
      · split
        · split <;> rfl
        · rename_i cs _ _
          cases cs[j]? <;> rfl
      · rfl
    · rfl
  · rfl
theorem EncC_pre {ks : List K} : ∀ {c c' : List D} {j : Nat} {vs : List AV}, (∀ i, j ≤ i → i < j + ks.length → c.getD i default = c'.getD i default) → EncC ks c j vs → EncC ks c' j vs := by
  induction ks with
  | nil => intro c c' j vs _ h; exact h
  | cons k ks ih =>
    intro c c' j vs hc h
    simp only [EncC] at h ⊢
    obtain ⟨v, vs', rfl, h1, h2⟩ := h
    refine ⟨v, vs', rfl, ?_, ih (fun i h3 h4 => hc i (by omega) (by simp only [List.length_cons]; omega)) h2⟩
    rw [← hc j (Nat.le_refl _) (by simp only [List.length_cons]; omega)]
    exact h1
theorem keyD_sim {ka : Bool} {kk : List K} {k : SV} {a : AV} {key : List D} (h : keyD ka kk k = some key) (hv : VR k a) : KeyR ka kk key a ∧ key.length = kk.length := by
  unfold keyD at h
  split at h
  · simp only [VR] at hv
    obtain ⟨vs, rfl, hv⟩ := hv
    exact ⟨⟨vs, rfl, toDs_enc h hv fun i d hd => by simpa using hd⟩, (toDs_length h).1⟩
  · cases h
  · exact ⟨toDs_enc h (VRL_cons hv VRL_nil) fun i d hd => by simpa using hd, (toDs_length h).1⟩
theorem eqCells_keys : ∀ {kk : List K} {bs : List Bool} {c d : List D} {j : Nat} {xs ys : List AV}, kk.map kindB = bs.map some → EncC kk c j xs → EncC kk d j ys → eqCells bs xs ys = some (eqKs kk c d j) := by
  intro kk
  induction kk with
  | nil =>
    intro bs c d j xs ys hb hx hy
    cases bs with
    | nil => simp only [EncC] at hx hy; subst hx; subst hy; rfl
    | cons b bs => simp at hb
  | cons k kk ih =>
    intro bs c d j xs ys hb hx hy
    cases bs with
    | nil => simp at hb
    | cons b bs =>
      simp only [List.map_cons, List.cons.injEq] at hb
      simp only [EncC] at hx hy
      obtain ⟨x, xs', rfl, hx1, hx2⟩ := hx
      obtain ⟨y, ys', rfl, hy1, hy2⟩ := hy
      have hr := ih hb.2 hx2 hy2
      cases k <;> simp only [kindB, Option.some.injEq, reduceCtorEq, false_and] at hb
      · obtain ⟨rfl, -⟩ := hb
        simp only [EncV] at hx1 hy1
        subst hx1; subst hy1
        simp only [eqCells, if_true, hr, Option.map_some, eqKs, eqD]
      · obtain ⟨rfl, -⟩ := hb
        simp only [EncV] at hx1 hy1
        subst hx1; subst hy1
        simp only [eqCells, hr, Option.map_some, eqKs, eqD]
theorem eqK_keys {Y : Option Ty} {ka : Bool} {kk : List K} {c d : List D} {x y : AV} (h : keyT Y ka kk = true) (hx : KeyR ka kk c x) (hy : KeyR ka kk d y) : eqK Y x y = some (eqKs kk c d 0) := by
  unfold keyT at h
  split at h
  · simp only [KeyR, EncC, EncV] at hx hy
    obtain ⟨v, vs, e, rfl, e2⟩ := hx
    obtain ⟨u, us, e', rfl, e2'⟩ := hy
    cases e; cases e'
    simp only [eqK, if_true, eqKs, eqD, Bool.and_true]
  · simp only [KeyR, EncC, EncV] at hx hy
    obtain ⟨v, vs, e, rfl, e2⟩ := hx
    obtain ⟨u, us, e', rfl, e2'⟩ := hy
    cases e; cases e'
    simp only [eqK, eqKs, eqD, Bool.and_true]
  · simp only [KeyR] at hx hy
    obtain ⟨vs, rfl, hx⟩ := hx
    obtain ⟨us, rfl, hy⟩ := hy
    simp only [eqK]
    exact eqCells_keys (by simpa using h) hx hy
  · cases h
theorem eqKs_self : ∀ {kk : List K} {c : List D} {j : Nat}, plainK kk = true → eqKs kk c c j = true
  | [], _, _, _ => rfl
  | k :: kk, c, j, h => by
    cases k <;> simp only [plainK, Bool.false_eq_true] at h <;> simp only [eqKs, eqD, beq_self_eq_true, Bool.true_and] <;> exact eqKs_self h
theorem findM_sim {Y : Option Ty} {ka : Bool} {kk : List K} {key : List D} {k : AV} (hY : keyT Y ka kk = true) (hk : KeyR ka kk key k) : ∀ {l : List (List D)} {kvs : List (AV × AV)} {i : Nat}, kvs.length = l.length → (∀ (i : Nat) p c, kvs[i]? = some p → l[i]? = some c → KeyR ka kk c p.1) →
    (mfind kk key l i = none ∧ findM Y k kvs i = some none) ∨ ∃ j p, mfind kk key l i = some j ∧ i ≤ j ∧ j - i < l.length ∧ kvs[j - i]? = some p ∧ findM Y k kvs i = some (some (j, p.2))
  | [], [], i, _, _ => .inl ⟨rfl, rfl⟩
  | c :: l, p :: kvs, i, hl, h => by
    have h1 := eqK_keys hY hk (h 0 p c rfl rfl)
    simp only [mfind, findM, h1]
    cases he : eqKs kk key c 0 with
    | true => exact .inr ⟨i, p, by simp, Nat.le_refl _, by simp, by simp, by simp⟩
    | false =>
      simp only [Bool.false_eq_true, if_false]
      rcases findM_sim hY hk (l := l) (kvs := kvs) (i := i + 1) (by simpa using hl) (fun i p c h3 h4 => h (i + 1) p c (by simpa using h3) (by simpa using h4)) with h2 | ⟨j, q, h2, h3, h4, h5, h6⟩
      · exact .inl h2
      · refine .inr ⟨j, q, h2, by omega, by simp only [List.length_cons]; omega, ?_, h6⟩
        rw [show j - i = (j - (i + 1)) + 1 by omega, List.getElem?_cons_succ]
        exact h5
  | [], _ :: _, _, hl, _ => by simp at hl
  | _ :: _, [], _, hl, _ => by simp at hl
theorem row_key {ka : Bool} {kk : List K} {vk : K} {key : List D} {d : D} {k v : AV} (hl : key.length = kk.length) (hk : KeyR ka kk key k) (hv : EncV vk d v) : KeyR ka kk (key ++ [d]) k ∧ EncV vk ((key ++ [d]).getD kk.length default) v := by
  have hp : ∀ i, 0 ≤ i → i < 0 + kk.length → key.getD i default = (key ++ [d]).getD i default := fun i _ hi => by
    rw [List.getD_eq_getElem?_getD, List.getD_eq_getElem?_getD, List.getElem?_append_left (by omega)]
  refine ⟨?_, ?_⟩
  · cases ka with
    | true =>
      obtain ⟨vs, rfl, hk⟩ := hk
      exact ⟨vs, rfl, EncC_pre hp hk⟩
    | false => exact EncC_pre (ks := kk) (vs := [k]) hp hk
  · rw [List.getD_eq_getElem?_getD, List.getElem?_append_right (by omega)]
    simpa [hl] using hv
theorem lookT_run {α : Type} {q : IntKind} {m : Int} {f : Option SV → T α} {r : α} {Y : Option Ty} (hY : keyT Y false [.int .i64] = true) : ∀ {es : List (SV × SV)} {kvs : List (AV × AV)} (i : Nat), (lookT q m f es).run = some r → es.length = kvs.length → (∀ (i : Nat) e p, es[i]? = some e → kvs[i]? = some p → VR e.1 p.1 ∧ VR e.2 p.2) →
    (findM Y (.int q m) kvs i = some none ∧ (f none).run = some r) ∨ ∃ j p v, findM Y (.int q m) kvs i = some (some (j, p)) ∧ VR v p ∧ (f (some v)).run = some r
  | [], [], i, h, _, _ => .inl ⟨rfl, h⟩
  | (e, v) :: es, p :: kvs, i, h, hl, hh => by
    obtain ⟨h1, h2⟩ := hh 0 (e, v) p rfl rfl
    cases e <;> try (cases h; done)
    rename_i k' n
    simp only [VR] at h1
    simp only [lookT] at h
    split at h
    case isFalse => cases h
    rename_i hk
    subst hk
    have hY' : eqK Y (.int q m) p.1 = some (m == n) := by
      rw [h1]
      unfold keyT at hY
      split at hY
      · simp only [eqK, if_true]
      · rename_i h3
        cases h3
      · rename_i h3
        cases h3
      · cases hY
    simp only [findM, hY']
    simp only [T.run] at h
    by_cases hm : m = n
    · subst hm
      simp only [decide_true, if_true] at h
      simp only [beq_self_eq_true]
      exact .inr ⟨i, p.2, v, rfl, h2, h⟩
    · rw [if_neg (by simpa using hm)] at h
      rw [show (m == n) = false by simpa using hm]
      exact lookT_run hY (i + 1) h (by simpa using hl) fun i e p h3 h4 => hh (i + 1) e p (by simpa using h3) (by simpa using h4)
  | [], _ :: _, _, _, hl, _ => by simp at hl
  | _ :: _, [], _, _, hl, _ => by simp at hl
theorem newK_run {q : IntKind} {m : Int} {Y : Option Ty} (hY : keyT Y false [.int .i64] = true) : ∀ {es : List (SV × SV)} {kvs : List (AV × AV)} (i : Nat), newK q m es = true → es.length = kvs.length → (∀ (i : Nat) e p, es[i]? = some e → kvs[i]? = some p → VR e.1 p.1 ∧ VR e.2 p.2) → findM Y (.int q m) kvs i = some none
  | [], [], i, _, _, _ => rfl
  | (e, v) :: es, p :: kvs, i, h, hl, hh => by
    obtain ⟨h1, h2⟩ := hh 0 (e, v) p rfl rfl
    cases e <;> try (cases h; done)
    rename_i k' n
    simp only [VR] at h1
    simp only [newK, Bool.and_eq_true, decide_eq_true_eq, Bool.not_eq_true', decide_eq_false_iff_not] at h
    obtain ⟨⟨hk, hm⟩, h⟩ := h
    subst hk
    have hY' : eqK Y (.int q m) p.1 = some (m == n) := by
      rw [h1]
      unfold keyT at hY
      split at hY
      · simp only [eqK, if_true]
      · rename_i h3
        cases h3
      · rename_i h3
        cases h3
      · cases hY
    simp only [findM, hY']
    rw [show (m == n) = false by simpa using hm]
    exact newK_run hY (i + 1) h (by simpa using hl) fun i e p h3 h4 => hh (i + 1) e p (by simpa using h3) (by simpa using h4)
  | [], _ :: _, _, _, hl, _ => by simp at hl
  | _ :: _, [], _, _, hl, _ => by simp at hl
theorem eqK_int {Y : Option Ty} (hY : keyT Y false [.int .i64] = true) (q : IntKind) (m : Int) : eqK Y (.int q m) (.int q m) = some true := by
  unfold keyT at hY
  split at hY
  · simp only [eqK, if_true, beq_self_eq_true]
  · rename_i h3
    cases h3
  · rename_i h3
    cases h3
  · cases hY
theorem plain_parts {vk : K} {kk : List K} (h : plainK (vk :: kk) = true) : plainK [vk] = true ∧ plainK kk = true := by
  cases vk <;> simp_all [plainK]
theorem toDs_one {vk : K} {v : SV} {a : AV} {d : D} {ds : List D} (h : toDs [vk] [v] = some (d :: ds)) (hv : VR v a) : EncV vk d a := by
  have := toDs_enc (c := d :: ds) (j := 0) h (VRL_cons hv VRL_nil) fun i d hd => by simpa using hd
  simp only [EncC] at this
  obtain ⟨u, us, e, h1, -⟩ := this
  cases e
  exact h1
theorem act_sim {C : Cfg} {tab : Tab} {n : Nat} (hS : SpOK C tab n) {S : Type} {H : Option (Hd S)} {at_ : Nat} {ls : Nat → Option SB} {l : Nat → Option Blk} (hl : ∀ i, OR (ls i) (l i)) {ms : MS} {m : MA} {r : RS} (s : S)
    (h : (actS C tab at_ ls ms).run = some r) (hm : MR ms m) : ∃ r', act C (callA C n) H at_ l s m = some r' ∧ r'.s = s ∧ RR r r' := by
  cases ms with
  | pure v =>
    simp only [MR] at hm
    obtain ⟨a, rfl, hv⟩ := hm
    cases h
    exact ⟨_, rfl, rfl, RR.plain hv⟩
  | pan t =>
    simp only [MR] at hm
    subst hm
    cases h
    exact ⟨_, rfl, rfl, RR.plain (by simp only [VR])⟩
  | newbox cs =>
    simp only [MR] at hm
    obtain ⟨vs, rfl, hv⟩ := hm
    simp only [actS] at h
    split at h
    · rename_i hok
      cases h
      refine ⟨_, by simp only [act]; rw [if_pos (okSL_sim hok hv)], rfl, RR.one ?_ (by simp only [UR]) ?_⟩
      · simp only [VR, VRL_length hv]
      · refine packB_sim ?_
        simp only [BlkR]
        exact ⟨vs, rfl, (VRL_length hv).symm, hv, flatL_noIds⟩
    · cases h
  | loadx i sz p =>
    simp only [MR] at hm
    obtain ⟨nn, rfl⟩ := hm
    simp only [actS] at h
    have hli := hl i
    split at h
    · rename_i k n' l' tl hi
      rw [hi] at hli
      obtain ⟨B, hB, hr⟩ := OR_some hli
      split at h
      · rename_i hsz
        simp only [T.run] at h
        split at h
        · rename_i hp
          cases h
          simp only [decide_eq_true_eq] at hp
          obtain ⟨hl', hr⟩ := arr_box hr
          obtain ⟨s', es, fl, rfl⟩ := BlkR_row hr
          simp only [BlkR] at hr
          obtain ⟨us, rfl, rfl, hu, -⟩ := hr
          obtain ⟨u, hu1, hu2⟩ := VRL_get hu (arrC_get (tl := tl) hp)
          simp only [VR] at hu2
          subst hu2
          refine ⟨⟨.int k ((l'.getD p []).getD 0 default).I, [], [], s⟩, ?_, rfl, RR.plain (by simp only [VR])⟩
          rw [← act_load (callA C n) H at_ l s]
          simp only [loadV, hB, List.length_append, length_arrC, hsz, if_true, List.getElem?_cons_zero, Bool.false_eq_true, if_false, hu1, Option.map_some]
        · cases h
      · cases h
    · cases h
  | storex i sz p v =>
    simp only [MR] at hm
    obtain ⟨a, rfl, hv⟩ := hm
    simp only [actS] at h
    have hli := hl i
    split at h
    · rename_i k n' l' tl k' x hi
      rw [hi] at hli
      obtain ⟨B, hB, hr⟩ := OR_some hli
      split at h
      · rename_i hsz
        obtain ⟨hsz, rfl⟩ := hsz
        simp only [T.run] at h
        split at h
        · rename_i hp
          cases h
          simp only [decide_eq_true_eq] at hp
          obtain ⟨hl', hr⟩ := arr_box hr
          obtain ⟨s', es, fl, rfl⟩ := BlkR_row hr
          simp only [BlkR] at hr
          obtain ⟨us, rfl, rfl, hu, hno⟩ := hr
          simp only [VR] at hv
          subst hv
          have hlen : us.length = n' + tl.length := by rw [← VRL_length hu, List.length_append, length_arrC]
          simp only [act, hB, List.length_append, length_arrC, hsz, if_true, List.getElem?_cons_zero, List.length_singleton]
          rw [if_pos ⟨by omega, rfl⟩]
          refine ⟨_, rfl, rfl, RR.upd (by simp only [VR]) (arr_of (by rw [List.length_set]; exact hl') ?_)⟩
          rw [arrC_set (by omega)]
          simp only [BlkR, List.set_cons_zero]
          refine ⟨_, rfl, by simp only [List.length_append, List.length_take, List.length_drop, List.length_singleton, length_arrC]; omega, VRL_append (VRL_append (VRL_take _ hu) (VRL_cons (by simp only [VR]) VRL_nil)) (VRL_drop _ hu), fun hfl v hm => ?_⟩
          simp only [Bool.and_eq_true] at hfl
          rcases List.mem_append.1 hm with hm | hm
          · rcases List.mem_append.1 hm with hm | hm
            · exact hno hfl.1 v (List.mem_of_mem_take hm)
            · exact flatL_noIds hfl.2 v hm
          · exact hno hfl.1 v (List.mem_of_mem_drop hm)
        · cases h
      · cases h
    · cases h
  | newrow ks l' n' =>
    simp only [MR] at hm
    obtain ⟨es, cap, rfl, he, hok⟩ := hm
    cases h
    refine ⟨_, by simp only [act]; rw [if_pos (by rw [hok, EncE_lens he]; rfl)], rfl, RR.one ?_ (by simp only [UR]) ?_⟩
    · simp only [VR]; exact ⟨_, rfl⟩
    · simp only [BlkR]; exact ⟨by trivial, he⟩
  | newe s' =>
    simp only [MR] at hm
    subst hm
    cases h
    exact ⟨_, rfl, rfl, RR.plain (by simp only [VR]; exact .inr trivial)⟩
  | newlst s' cs =>
    simp only [MR] at hm
    obtain ⟨es, rfl, hv⟩ := hm
    simp only [actS] at h
    split at h
    · rename_i hok
      cases h
      rw [List.all_eq_true] at hok
      have hrow : ∀ e ∈ es, okL e = true ∧ e.length = s' := fun e he => by
        obtain ⟨i, hi, rfl⟩ := List.getElem_of_mem he
        have hi' : i < cs.length := by rw [hv.1]; exact hi
        have h2 := hv.2 i _ _ (List.getElem?_eq_getElem hi') (List.getElem?_eq_getElem hi)
        have h3 := hok _ (List.getElem_mem hi')
        rw [Bool.and_eq_true, decide_eq_true_iff] at h3
        exact ⟨okSL_sim h3.1 h2, by rw [← VRL_length h2]; exact h3.2⟩
      refine ⟨_, by simp only [act]; rw [if_pos (by rw [okE_of fun e he => (hrow e he).1, lens_of fun e he => (hrow e he).2]; rfl)], rfl, RR.one ?_ (by simp only [UR]) ?_⟩
      · simp only [VR]; exact ⟨_, rfl⟩
      · simp only [BlkR]
        exact ⟨by trivial, hv, fun e he => (hrow e he).2, fun hf e he => flatL_noIds (flatE_mem hf e he)⟩
    · cases h
  | load i sz k j agg nn =>
    simp only [MR] at hm
    subst hm
    simp only [actS, T.run_bind, Option.bind_eq_some_iff] at h
    obtain ⟨v, h1, h2⟩ := h
    cases h2
    obtain ⟨u, hu, hr⟩ := loadVS_sim hl h1
    refine ⟨⟨u, [], [], s⟩, ?_, rfl, RR.plain hr⟩
    rw [← act_load (callA C n) H at_ l s, hu]
    rfl
  | store i sz k j vs =>
    simp only [MR] at hm
    obtain ⟨as, rfl, hv⟩ := hm
    simp only [actS] at h
    have hli := hl i
    have hal := VRL_length hv
    split at h
    · rename_i cs hi
      rw [hi] at hli
      obtain ⟨B, hB, hr⟩ := OR_some hli
      obtain ⟨s', es, fl, rfl⟩ := BlkR_row hr
      simp only [BlkR] at hr
      obtain ⟨us, rfl, rfl, hu, hno⟩ := hr
      split at h
      · rename_i hc
        obtain ⟨rfl, rfl⟩ := hc
        split at h
        · rename_i hok
          cases h
          simp only [act, hB, if_true, List.getElem?_cons_zero]
          rw [if_pos ⟨by rw [← hal, ← VRL_length hu]; exact hok.1, okSL_sim hok.2 hv⟩]
          refine ⟨_, rfl, rfl, RR.upd (by simp only [VR]) (packB_sim ?_)⟩
          simp only [BlkR, List.set_cons_zero]
          refine ⟨_, rfl, by simp; omega, by rw [← hal]; exact VRL_append (VRL_append (VRL_take _ hu) hv) (VRL_drop _ hu), fun hfl v hm => ?_⟩
          simp only [Bool.and_eq_true] at hfl
          rcases List.mem_append.1 hm with hm | hm
          · rcases List.mem_append.1 hm with hm | hm
            · exact hno hfl.1 v (List.mem_of_mem_take hm)
            · exact flatL_noIds hfl.2 v hm
          · exact hno hfl.1 v (List.mem_of_mem_drop hm)
        · cases h
      · cases h
    · rename_i ks l' hi
      rw [hi] at hli
      obtain ⟨B, hB, hr⟩ := OR_some hli
      obtain ⟨s', es, fl, rfl⟩ := BlkR_row hr
      simp only [BlkR] at hr
      obtain ⟨rfl, he⟩ := hr
      split at h
      · rename_i hc
        subst hc
        split at h
        · rename_i ds hd
          split at h
          · rename_i hj
            simp only [T.run] at h
            split at h
            · rename_i hk
              cases h
              obtain ⟨e, hek, henc⟩ := EncE_len0 he (of_decide_eq_true hk)
              simp only [act, hB, if_true, hek]
              rw [if_pos ⟨by rw [← hal, EncC_length henc]; exact hj, okSL_sim (toDs_ok hd) hv⟩]
              refine ⟨_, rfl, rfl, RR.upd (by simp only [VR]) ?_⟩
              simp only [BlkR]
              exact ⟨by trivial, EncE_set he k (EncC_upd henc hd hv hj)⟩
            · cases h
          · cases h
        · cases h
      · cases h
    · cases h
  | append a x sz by_ ks =>
    simp only [MR] at hm
    obtain ⟨a', x', rfl, ha, hx, rfl⟩ := hm
    simp only [actS, T.run_bind, Option.bind_eq_some_iff] at h
    obtain ⟨xs, hxs, h⟩ := h
    obtain ⟨es, fx, hc, he⟩ := contents_sim hl hxs hx
    have hemp := EncE_isEmpty he
    have hlen := he.1
    simp only [act, hc]
    split at h
    · simp only [VR] at ha; subst ha
      simp only [T.run] at h
      split at h
      · rename_i hem
        cases h
        rw [if_pos (by rw [hemp]; exact hem)]
        exact ⟨_, rfl, rfl, RR.plain (by simp only [VR])⟩
      · rename_i hem
        rw [if_neg (by rw [hemp]; exact hem)]
        split at h
        · rename_i hs
          simp only [T.run] at h
          split at h
          · rename_i hb
            cases h
            simp only [decide_eq_true_eq] at hb
            rw [if_pos (by rw [hlen]; exact ⟨hb.1, hb.2, hs⟩)]
            exact ⟨_, rfl, rfl, RR.one (by simp only [VR]; exact ⟨_, by rw [hlen]⟩) (by simp only [UR]) (by simp only [BlkR]; exact ⟨by trivial, he⟩)⟩
          · cases h
        · cases h
    · split at h
      case isFalse => cases h
      rename_i hss
      subst hss
      simp only [T.run] at h
      have ha0 := ha
      simp only [VR] at ha
      split at h
      · rename_i hem
        cases h
        rcases ha with rfl | rfl
        · simp only
          rw [if_pos (by rw [hemp]; exact hem)]
          exact ⟨_, rfl, rfl, RR.plain ha0⟩
        · simp only
          rw [if_pos (by rw [hemp]; exact hem)]
          exact ⟨_, rfl, rfl, RR.plain ha0⟩
      · rename_i hem
        split at h
        · rename_i hs
          simp only [T.run] at h
          split at h
          · rename_i hb
            cases h
            simp only [decide_eq_true_eq] at hb
            rcases ha with rfl | rfl
            · simp only
              rw [if_neg (by rw [hemp]; exact hem), if_pos (by rw [hlen]; exact ⟨hb.1, hb.2, hs⟩)]
              exact ⟨_, rfl, rfl, RR.one (by simp only [VR]; exact ⟨_, by rw [hlen]⟩) (by simp only [UR]) (by simp only [BlkR]; exact ⟨by trivial, he⟩)⟩
            · simp only [List.length_nil, Nat.zero_add, List.nil_append]
              rw [if_neg (by rw [hemp]; exact hem), if_pos (by rw [hlen]; simp only [Bool.true_and, decide_eq_true_eq]; exact ⟨by trivial, hb.1, hb.2, hs⟩)]
              exact ⟨_, rfl, rfl, RR.one (by simp only [VR]; exact ⟨_, by rw [hlen]⟩) (by simp only [UR]) (by simp only [BlkR]; exact ⟨by trivial, he⟩)⟩
          · cases h
        · cases h
    · rename_i c0 ks' es0
      split at h
      · rename_i hk
        have := keqs_eq _ _ hk
        subst this
        simp only [T.run] at h
        have ha0 := ha
        simp only [VR] at ha
        split at h
        · rename_i hem
          cases h
          rcases ha with ⟨rfl, h0⟩ | ⟨kd, c0', fs, rfl, hc0, he0⟩
          · simp only [hemp, hem, if_true]
            exact ⟨_, rfl, rfl, RR.plain ha0⟩
          · simp only [hemp, hem, if_true]
            exact ⟨_, rfl, rfl, RR.plain ha0⟩
        · rename_i hem
          split at h
          · rename_i hs
            simp only [T.run] at h
            split at h
            · rename_i hb
              cases h
              simp only [Bool.and_eq_true, decide_eq_true_eq] at hb
              obtain ⟨hb0, hb1, hb2⟩ := hb
              rcases ha with ⟨rfl, rfl⟩ | ⟨kd, c0', fs, rfl, hc0, he0⟩
              · simp only [hemp]
                rw [if_neg hem]
                simp only [List.length_nil, Nat.zero_add] at hb1 hb2
                rw [if_pos (by rw [hlen]; exact ⟨hb1, hb2, hs⟩)]
                exact ⟨_, rfl, rfl, RR.one (by simp only [VR]; exact ⟨none, by simp [hlen]⟩) (by simp only [UR]) (by simp only [BlkR, List.nil_append]; exact ⟨by trivial, he⟩)⟩
              · simp only [hemp]
                rw [if_neg hem]
                have hl0 := he0.1
                rw [if_pos (by simp only [hc0 hb0, Bool.true_and, decide_eq_true_eq]; exact ⟨by trivial, by rw [hlen, hl0]; exact hb1, by rw [hlen, hl0]; exact hb2, hs⟩)]
                exact ⟨_, rfl, rfl, RR.one (by simp only [VR]; exact ⟨none, by rw [hlen, hl0]⟩) (by simp only [UR]) (by simp only [BlkR]; exact ⟨by trivial, EncE_append he0 he⟩)⟩
            · cases h
          · cases h
      · cases h
    · rename_i i s' n'
      split at h
      · rename_i ks' l' hi
        split at h
        · rename_i hcnd
          obtain ⟨hk, rfl, hs⟩ := hcnd
          have := keqs_eq _ _ hk
          subst this
          simp only [T.run] at h
          have ha0 := ha
          simp only [VR] at ha
          obtain ⟨cap, rfl⟩ := ha
          have hli := hl i
          rw [hi] at hli
          obtain ⟨B, hB, hr⟩ := OR_some hli
          obtain ⟨s', es0, fl, rfl⟩ := BlkR_row hr
          simp only [BlkR] at hr
          obtain ⟨rfl, he0⟩ := hr
          have hl0 := he0.1
          split at h
          · rename_i hem
            cases h
            simp only [hemp, hem, if_true]
            exact ⟨_, rfl, rfl, RR.plain ha0⟩
          · rename_i hem
            split at h
            · rename_i hb
              cases h
              simp only [decide_eq_true_eq] at hb
              obtain ⟨hb0, hb1, hb2⟩ := hb
              simp only [hemp, hB]
              rw [if_neg hem, if_pos ⟨by trivial, by trivial, by trivial, by omega, by omega, by rw [hlen]; exact hb2, hs⟩]
              exact ⟨_, rfl, rfl, RR.one (by simp only [VR]; exact ⟨none, by rw [hlen]⟩) (by simp only [UR]; exact ⟨_, _, rfl, rfl, by simp only [OR], rfl⟩) (by simp only [BlkR]; exact ⟨by trivial, EncE_append (EncE_take _ he0) he⟩)⟩
            · cases h
        · cases h
      · cases h
    · cases h
  | copy d x sz =>
    simp only [MR] at hm
    obtain ⟨a', x', rfl, ha, hx⟩ := hm
    simp only [actS] at h
    split at h
    · rename_i i s' n'
      split at h
      · rename_i ks l' hi
        split at h
        case isFalse => cases h
        rename_i hc
        obtain ⟨rfl, rfl⟩ := hc
        rw [T.run_bind, Option.bind_eq_some_iff] at h
        obtain ⟨xs, h1, h⟩ := h
        obtain ⟨es, fx, e1, e2⟩ := contents_sim hl h1 hx
        simp only [T.run] at h
        split at h
        case isFalse => cases h
        rename_i hn
        cases h
        simp only [decide_eq_true_eq] at hn
        simp only [VR] at ha
        obtain ⟨cap, rfl⟩ := ha
        have hli := hl i
        rw [hi] at hli
        obtain ⟨B, hB, hr⟩ := OR_some hli
        obtain ⟨s2, es0, fl, rfl⟩ := BlkR_row hr
        simp only [BlkR] at hr
        obtain ⟨rfl, he⟩ := hr
        have hl0 := he.1
        simp only [act, e1, hB]
        rw [if_pos ⟨by trivial, by trivial, by omega⟩]
        exact ⟨_, rfl, rfl, RR.upd (by simp only [VR, i64, ← e2.1]) (by simp only [BlkR]; exact ⟨by trivial, EncE_cpy he e2 0 n'⟩)⟩
      · cases h
    · rename_i i s' lo n'
      split at h
      · rename_i ks l' hi
        split at h
        case isFalse => cases h
        rename_i hc
        obtain ⟨rfl, rfl⟩ := hc
        rw [T.run_bind, Option.bind_eq_some_iff] at h
        obtain ⟨xs, h1, h⟩ := h
        obtain ⟨es, fx, e1, e2⟩ := contents_sim hl h1 hx
        simp only [T.run] at h
        split at h
        case isFalse => cases h
        rename_i hn
        cases h
        simp only [decide_eq_true_eq] at hn
        simp only [VR] at ha
        obtain ⟨cap, rfl⟩ := ha
        have hli := hl i
        rw [hi] at hli
        obtain ⟨B, hB, hr⟩ := OR_some hli
        obtain ⟨s2, es0, fl, rfl⟩ := BlkR_row hr
        simp only [BlkR] at hr
        obtain ⟨rfl, he⟩ := hr
        have hl0 := he.1
        simp only [act, e1, hB]
        rw [if_pos ⟨by trivial, by trivial, by omega⟩]
        exact ⟨_, rfl, rfl, RR.upd (by simp only [VR, i64, ← e2.1]) (by simp only [BlkR]; exact ⟨by trivial, EncE_cpy he e2 lo n'⟩)⟩
      · cases h
    · cases h
  | call f args =>
    simp only [MR] at hm
    obtain ⟨as, rfl, hv⟩ := hm
    simp only [actS] at h
    simp only [act]
    exact callTS_sim hS hl s h hv
  | callp f i sz k j agg nn args =>
    simp only [MR] at hm
    obtain ⟨as, rfl, hv⟩ := hm
    simp only [actS, T.run_bind, Option.bind_eq_some_iff] at h
    obtain ⟨v, h1, h2⟩ := h
    obtain ⟨u, hu, hr⟩ := loadVS_sim hl h1
    simp only [act, hu]
    exact callTS_sim hS hl s h2 (VRL_cons hr hv)
  | yld args => cases h
  | newm b =>
    simp only [MR] at hm
    obtain ⟨rfl, hb⟩ := hm
    cases h
    exact ⟨_, rfl, rfl, RR.one (by simp only [VR]) (by simp only [UR]) hb⟩
  | mlen i =>
    simp only [MR] at hm
    subst hm
    simp only [actS] at h
    have hli := hl i
    split at h
    · rename_i ka kk vk l' hi
      rw [hi] at hli
      obtain ⟨B, hB, hr⟩ := OR_some hli
      obtain ⟨kvs, rfl⟩ := BlkR_map hr
      simp only [BlkR] at hr
      cases h
      exact ⟨_, by simp only [act, hB] <;> rfl, rfl, RR.plain (by simp only [VR, i64, hr.2.1])⟩
    · cases h
  | mget i Y k z ok =>
    simp only [MR] at hm
    obtain ⟨k', z', rfl, hk, hz⟩ := hm
    simp only [actS] at h
    have hli := hl i
    have tup : ∀ {v : SV} {a : AV} {b : Bool}, VR v a → VR (if ok then .tup [v, .kb b] else v) (if ok then .tup [a, .bool b] else a) := fun {v a b} hv => by
      cases ok with
      | true => simp only [if_true, VR]; exact ⟨_, rfl, VRL_cons hv (VRL_cons (by simp only [VR]) VRL_nil)⟩
      | false => simpa using hv
    split at h
    · rename_i ka kk vk l' hi
      rw [hi] at hli
      obtain ⟨B, hB, hr⟩ := OR_some hli
      obtain ⟨kvs, rfl⟩ := BlkR_map hr
      simp only [BlkR] at hr
      obtain ⟨hp, h2, h3⟩ := hr
      split at h
      · rename_i key hY hkey
        obtain ⟨hK, hlk⟩ := keyD_sim hkey hk
        have hself : eqK Y k' k' = some true := by rw [eqK_keys hY hK hK, eqKs_self (plain_parts hp).2]
        simp only [T.run] at h
        rcases findM_sim hY hK (i := 0) h2 (fun i p c h4 h5 => (h3 i p c h4 h5).1) with ⟨h4, h5⟩ | ⟨j, p, h4, h5, h6, h7, h8⟩
        · rw [if_neg (by simp [mhas, h4])] at h
          cases h
          exact ⟨_, by simp only [act, hB, hself, h5] <;> rfl, rfl, RR.plain (tup hz)⟩
        · rw [if_pos (by simp [mhas, h4])] at h
          cases h
          refine ⟨_, by simp only [act, hB, hself, h8] <;> rfl, rfl, RR.plain (tup ?_)⟩
          have hm : mval kk key l' = (l'[j]'(by omega)).getD kk.length default := by
            simp only [mval, h4, Option.getD_some]
            rw [List.getD_eq_getElem?_getD (l := l'), List.getElem?_eq_getElem (by omega), Option.getD_some]
          rw [hm]
          exact EncV_dec (h3 j p _ h7 (List.getElem?_eq_getElem (by omega))).2
      · cases h
    · rename_i es hi
      rw [hi] at hli
      obtain ⟨B, hB, hr⟩ := OR_some hli
      obtain ⟨kvs, rfl⟩ := BlkR_mlst hr
      simp only [BlkR] at hr
      split at h
      · rename_i q m hY
        simp only [VR] at hk
        subst hk
        rcases lookT_run hY 0 h hr.1 hr.2 with ⟨h1, h2⟩ | ⟨j, p, v, h1, h2, h3⟩
        · cases h2
          exact ⟨_, by simp only [act, hB, eqK_int hY, h1] <;> rfl, rfl, RR.plain (tup hz)⟩
        · cases h3
          exact ⟨_, by simp only [act, hB, eqK_int hY, h1] <;> rfl, rfl, RR.plain (tup h2)⟩
      · cases h
    · cases h
  | mset i Y k v =>
    simp only [MR] at hm
    obtain ⟨k', v', rfl, hk, hv⟩ := hm
    simp only [actS] at h
    have hli := hl i
    split at h
    · rename_i ka kk vk l' hi
      rw [hi] at hli
      obtain ⟨B, hB, hr⟩ := OR_some hli
      obtain ⟨kvs, rfl⟩ := BlkR_map hr
      simp only [BlkR] at hr
      obtain ⟨hp, h2, h3⟩ := hr
      split at h
      · rename_i key d ds hY hkey hd
        obtain ⟨hK, hlk⟩ := keyD_sim hkey hk
        have hV := toDs_one hd hv
        obtain ⟨r1, r2⟩ := row_key hlk hK hV
        have hself : eqK Y k' k' = some true := by rw [eqK_keys hY hK hK, eqKs_self (plain_parts hp).2]
        cases h
        rcases findM_sim hY hK (i := 0) h2 (fun i p c h4 h5 => (h3 i p c h4 h5).1) with ⟨h4, h5⟩ | ⟨j, p, h4, h5, h6, h7, h8⟩
        · refine ⟨_, by simp only [act, hB, hself, h5] <;> rfl, rfl, RR.upd (by simp only [VR]) ?_⟩
          simp only [msetD, h4, BlkR]
          refine ⟨hp, by simp [h2], fun i p c hp' hc => ?_⟩
          rw [List.getElem?_append] at hp' hc
          split at hp'
          · rename_i hi'
            rw [if_pos (by rw [← h2]; exact hi')] at hc
            exact h3 i p c hp' hc
          · rename_i hi'
            rw [if_neg (by rw [← h2]; exact hi'), ← h2] at hc
            obtain ⟨n, hn⟩ : ∃ n, i - kvs.length = n := ⟨_, rfl⟩
            rw [hn] at hp' hc
            cases n with
            | zero =>
              simp only [List.getElem?_cons_zero, Option.some.injEq] at hp' hc
              subst hp'; subst hc
              exact ⟨r1, r2⟩
            | succ n => simp at hp'
        · refine ⟨_, by simp only [act, hB, hself, h8] <;> rfl, rfl, RR.upd (by simp only [VR]) ?_⟩
          simp only [msetD, h4, BlkR]
          refine ⟨hp, by simp [h2], fun i p c hp' hc => ?_⟩
          rw [List.getElem?_set] at hp' hc
          split at hp'
          · rename_i e
            rw [if_pos e] at hc
            split at hp'
            · rename_i hlt
              rw [if_pos (by rw [← h2]; exact hlt)] at hc
              cases hp'; cases hc
              exact ⟨r1, r2⟩
            · cases hp'
          · rename_i e
            rw [if_neg e] at hc
            exact h3 i p c hp' hc
      · cases h
    · rename_i es hi
      rw [hi] at hli
      obtain ⟨B, hB, hr⟩ := OR_some hli
      obtain ⟨kvs, rfl⟩ := BlkR_mlst hr
      simp only [BlkR] at hr
      split at h
      · rename_i q m hY
        simp only [VR] at hk
        subst hk
        simp only [T.run] at h
        split at h
        case isFalse => cases h
        rename_i hn
        cases h
        have h1 := newK_run hY 0 hn hr.1 hr.2
        refine ⟨_, by simp only [act, hB, eqK_int hY, h1] <;> rfl, rfl, RR.upd (by simp only [VR]) ?_⟩
        simp only [BlkR]
        refine ⟨by simp [hr.1], fun i e p he hp' => ?_⟩
        rw [List.getElem?_append] at hp' he
        split at he
        · rename_i hi'
          rw [if_pos (by rw [← hr.1]; exact hi')] at hp'
          exact hr.2 i e p he hp'
        · rename_i hi'
          rw [if_neg (by rw [← hr.1]; exact hi'), ← hr.1] at hp'
          obtain ⟨n, hn'⟩ : ∃ n, i - es.length = n := ⟨_, rfl⟩
          rw [hn'] at hp' he
          cases n with
          | zero =>
            simp only [List.getElem?_cons_zero, Option.some.injEq] at hp' he
            subst hp'; subst he
            exact ⟨by simp only [VR], hv⟩
          | succ n => simp at hp'
      · cases h
    · cases h
  | mdel i Y k =>
    simp only [MR] at hm
    obtain ⟨k', rfl, hk⟩ := hm
    simp only [actS] at h
    have hli := hl i
    split at h
    · rename_i ka kk vk l' hi
      rw [hi] at hli
      obtain ⟨B, hB, hr⟩ := OR_some hli
      obtain ⟨kvs, rfl⟩ := BlkR_map hr
      simp only [BlkR] at hr
      obtain ⟨hp, h2, h3⟩ := hr
      split at h
      · rename_i key hY hkey
        obtain ⟨hK, hlk⟩ := keyD_sim hkey hk
        have hself : eqK Y k' k' = some true := by rw [eqK_keys hY hK hK, eqKs_self (plain_parts hp).2]
        cases h
        rcases findM_sim hY hK (i := 0) h2 (fun i p c h4 h5 => (h3 i p c h4 h5).1) with ⟨h4, h5⟩ | ⟨j, p, h4, h5, h6, h7, h8⟩
        · refine ⟨_, by simp only [act, hB, hself, h5] <;> rfl, rfl, RR.upd (by simp only [VR]; exact ⟨[], rfl, VRL_nil⟩) ?_⟩
          simp only [mdelD, h4, BlkR]
          exact ⟨hp, h2, h3⟩
        · refine ⟨_, by simp only [act, hB, hself, h8] <;> rfl, rfl, RR.upd (by simp only [VR]; exact ⟨[], rfl, VRL_nil⟩) ?_⟩
          simp only [mdelD, h4, BlkR]
          refine ⟨hp, by simp [List.length_eraseIdx, h2], fun i p c hp' hc => ?_⟩
          rw [List.getElem?_eraseIdx] at hp' hc
          split at hp'
          · rename_i e
            rw [if_pos e] at hc
            exact h3 i p c hp' hc
          · rename_i e
            rw [if_neg e] at hc
            exact h3 (i + 1) p c hp' hc
      · cases h
    · cases h
theorem HR_take {sh : SHeap} {h : Heap} (H : HR sh h) (n : Nat) : HR (sh.take n) (h.take n) := by
  refine ⟨by simp [H.1], fun i => ?_⟩
  have := H.2 i
  simp only [sget, hget, List.getElem?_take] at this ⊢
  split
  · exact this
  · trivial
theorem UR_none {l : List (Nat × Nat)} {a : Nat → Option SB} {b : Nat → Option Blk} (h : ∀ p ∈ l, OR (a p.2) (b p.2)) : UR (l.map fun p => (p.1, a p.2)) (l.map fun p => (p.1, b p.2)) := by
  induction l with
  | nil => simp only [List.map_nil, UR]
  | cons p l ih =>
    simp only [List.map_cons, UR]
    exact ⟨_, _, rfl, rfl, h p List.mem_cons_self, ih fun q hq => h q (List.mem_cons_of_mem _ hq)⟩
theorem actL_log {C : Cfg} {tab : Tab} {log : List (List D)} {at_ : Nat} {ls : Nat → Option SB} {ms : MS} {r : RS × List (List D)} (h : (actL C tab log at_ ls ms).run = some r) : log <+: r.2 := by
  unfold actL at h
  split at h
  · split at h
    · cases h
    · obtain ⟨-, h⟩ := T.run_needs _ _ _ h
      generalize handInS ls _ _ = p at h
      obtain ⟨ms, cargs, ch⟩ := p
      dsimp only at h
      split at h
      · cases h; exact List.prefix_append _ _
      · cases h
  · split at h
    · obtain ⟨-, h⟩ := T.run_needs _ _ _ h
      generalize handInS ls _ _ = p at h
      obtain ⟨ms, cargs, ch⟩ := p
      dsimp only at h
      rw [T.run_bind, Option.bind_eq_some_iff] at h
      obtain ⟨r0, -, h⟩ := h
      cases h
      exact List.prefix_append _ _
    · rw [T.run_bind, Option.bind_eq_some_iff] at h
      obtain ⟨r0, -, h⟩ := h
      cases h
      exact List.prefix_refl _
  · rw [T.run_bind, Option.bind_eq_some_iff] at h
    obtain ⟨r0, -, h⟩ := h
    cases h
    exact List.prefix_refl _
theorem actL_sim {C : Cfg} {tab : Tab} {n : Nat} (hS : SpOK C tab n) (hY : ∀ Y, tab.y = some Y → YOK Y) {S : Type} {H : Option (Hd S)} {P : Nat → S → Prop} {L : List (List D)} (hc : ConsOK tab.y tab.q H P L) {log : List (List D)} {at_ : Nat} {ls : Nat → Option SB} {l : Nat → Option Blk} (hl : ∀ i, OR (ls i) (l i)) {ms : MS} {m : MA} {r : RS × List (List D)}
    (h : (actL C tab log at_ ls ms).run = some r) (hp : r.2 <+: L) (hm : MR ms m) {s : S} (hs : P log.length s) : ∃ r', act C (callA C n) H at_ l s m = some r' ∧ P r.2.length r'.s ∧ RR r.1 r' := by
  unfold actL at h
  split at h
  · rename_i args
    split at h
    · cases h
    rename_i Y hy
    obtain ⟨hneed, h⟩ := T.run_needs _ _ _ h
    simp only [MR] at hm
    obtain ⟨as, rfl, hv⟩ := hm
    have hlen : (args.map fun _ => true) = (as.map fun _ => true) := by rw [List.map_const', List.map_const', VRL_length hv]
    obtain ⟨k1, k2, k3⟩ := handIn_sim hl (args.map fun _ => true) hv hneed
    rw [hlen] at k1 k2 k3 h
    generalize handInS ls (as.map fun _ => true) args = p at h k1 k2 k3
    obtain ⟨ms, cargs, ch⟩ := p
    dsimp only at h k1 k2 k3
    split at h
    case h_2 => cases h
    rename_i d hd
    cases h
    obtain ⟨e1, e2⟩ := hY Y hy _ _ _ hd _ _ k2 k3
    have hj : L[log.length]? = some d := by
      obtain ⟨t, rfl⟩ := hp
      simp
    obtain ⟨Hf, rfl, hf⟩ := hc _ _ hj Y hy
    obtain ⟨nh, s', g1, g0, g2, g3⟩ := hf s hs _ _ e1 e2
    simp only [act, g1]
    refine ⟨_, rfl, by simpa using g0, ?_⟩
    rw [k1]
    refine ⟨by simp only [VR], ?_, rfl, fun i b B h => by simp at h⟩
    cases hg : Y.give with
    | true =>
      simp only [if_true]
      exact (handBack_sim ms at_ (HR_take (g2 hg) ms.length)).1
    | false =>
      have hn := g3 hg
      have hno : ∀ i, hget (nh.take ms.length) i = none := fun i => by rw [hget_take]; split <;> first | exact hn i | rfl
      simp only [handBackW, handBack, Bool.false_eq_true, if_false]
      refine UR_none (a := fun k => (sget [] k).map (mvSB true true (back ms at_))) (b := fun k => (hget (List.take ms.length nh) k).map (mvB true true (back ms at_))) fun p _ => ?_
      rw [hno]
      simp [sget, OR]
  · rename_i f args
    split at h
    · rename_i b bs F hext hwr hsp
      obtain ⟨hneed, h⟩ := T.run_needs _ _ _ h
      simp only [MR] at hm
      obtain ⟨as, rfl, hv⟩ := hm
      obtain ⟨k1, k2, k3⟩ := handIn_sim hl (b :: bs) hv hneed
      rw [T.run_bind, Option.bind_eq_some_iff] at h
      obtain ⟨⟨⟨v, hb⟩, nw⟩, hF, h2⟩ := h
      cases h2
      obtain ⟨v', h', s', hcall, hs', hvv, hh⟩ := hS.2.1.2 f F hsp _ _ _ _ _ hF _ _ k2 k3 S H P L hc hp s hs
      have hall : allOwn (b :: bs) as = (decide (args.length ≤ (b :: bs).length) && (b :: bs).all id) := by unfold allOwn; rw [VRL_length hv]
      simp only [act, actCall, hext, hwr, hcall, hall]
      generalize (decide (args.length ≤ (b :: bs).length) && (b :: bs).all id) = al
      cases al with
      | true =>
        obtain ⟨u1, u2, u3⟩ := handBack_sim (handInS ls (b :: bs) args).1 at_ hh
        refine ⟨_, rfl, hs', ?_⟩
        rw [k1]
        exact ⟨mv_sim true true _ deep v v' hvv, u1, u2, u3⟩
      | false =>
        obtain ⟨u1, u2, u3⟩ := handBack_sim (handInS ls (b :: bs) args).1 at_ (strikeH_sim hh)
        refine ⟨_, rfl, hs', ?_⟩
        rw [k1]
        exact ⟨mv_sim true true _ deep _ _ (strike_sim hvv), u1, u2, u3⟩
    · rw [T.run_bind, Option.bind_eq_some_iff] at h
      obtain ⟨r0, h1, h2⟩ := h
      cases h2
      obtain ⟨r', a1, a2, a3⟩ := act_sim hS (H := H) hl s h1 hm
      exact ⟨r', a1, by rw [a2]; exact hs, a3⟩
  · rw [T.run_bind, Option.bind_eq_some_iff] at h
    obtain ⟨r0, h1, h2⟩ := h
    cases h2
    obtain ⟨r', a1, a2, a3⟩ := act_sim hS (H := H) hl s h1 hm
    exact ⟨r', a1, by rw [a2]; exact hs, a3⟩
def SSR (σ : SSt) (τ : St) : Prop := VRL σ.tmps τ.tmps ∧ HR σ.h τ.h
theorem put_sim {ts : List SV} {as : List AV} (h : VRL ts as) (dst : Option Tmp) {v : SV} {a : AV} (hv : VR v a) : VRL (putS dst v ts) (put dst a as) := by
  cases dst with
  | none => exact h
  | some d => exact VRL_set d h hv
theorem und_sim : VR .und .und := by simp only [VR]
theorem wanted_sim {ops : Array Oper} {ts ts' : List SV} {as : List AV} {o : Oper} {w : Bool} (h : (wantedS ops ts o).run = some (w, ts')) (hv : VRL ts as) : wantedA ops as o = some w ∧ VRL ts' as := by
  unfold wantedS at h
  unfold wantedA
  cases hg : o.guard with
  | none =>
    rw [hg] at h
    simp only [T.run, Option.some.injEq, Prod.mk.injEq] at h
    obtain ⟨rfl, rfl⟩ := h
    exact ⟨rfl, hv⟩
  | some p =>
    obtain ⟨j, want⟩ := p
    rw [hg] at h
    simp only at h ⊢
    cases hd : (ops[j]?).bind (·.dst) with
    | none => rw [hd] at h; cases h
    | some d =>
      rw [hd] at h
      simp only [Option.bind_some] at h ⊢
      cases ht : ts[d]? with
      | none => rw [ht] at h; cases h
      | some c =>
        rw [ht] at h
        obtain ⟨a, ha, hr⟩ := VRL_get hv ht
        rw [ha]
        cases c <;> simp only at h <;> try (cases h; done)
        case und =>
          simp only [VR] at hr; subst hr
          simp only [T.run, Option.some.injEq, Prod.mk.injEq] at h
          obtain ⟨rfl, rfl⟩ := h
          exact ⟨rfl, hv⟩
        case bool b =>
          simp only [VR] at hr; subst hr
          simp only [T.run] at h
          cases b <;> simp only [Bool.false_eq_true, if_false, if_true, Option.some.injEq, Prod.mk.injEq] at h <;> obtain ⟨rfl, rfl⟩ := h
          · exact ⟨by cases want <;> rfl, VRL_setL d hv ha (by simp only [VR])⟩
          · exact ⟨by cases want <;> rfl, VRL_setL d hv ha (by simp only [VR])⟩
        case kb b =>
          simp only [VR] at hr; subst hr
          simp only [T.run, Option.some.injEq, Prod.mk.injEq] at h
          obtain ⟨rfl, rfl⟩ := h
          exact ⟨rfl, hv⟩
theorem VR_pan {v : SV} {a : AV} (h : VR v a) : panOf a = panS v := by
  cases v <;> simp only [VR] at h
  case any =>
    cases a <;> first | rfl | exact absurd (h 1) (by simp [ids])
  case agg => obtain ⟨_, rfl, _⟩ := h; rfl
  case tup => obtain ⟨_, rfl, _⟩ := h; rfl
  case eptr => obtain ⟨_, _, rfl, _⟩ := h; rfl
  case ro => rcases h with ⟨rfl, _⟩ | ⟨_, _, _, rfl, _⟩ <;> rfl
  case emp => rcases h with rfl | rfl <;> rfl
  case sl => obtain ⟨_, rfl⟩ := h; rfl
  case sub => obtain ⟨_, rfl⟩ := h; rfl
  case fn => obtain ⟨_, _, rfl, _⟩ := h; rfl
  case ifc => obtain ⟨_, rfl, _⟩ := h; rfl
  case opt => rcases h with ⟨_, rfl⟩ | ⟨_, _, _, _, _, rfl, _⟩ <;> rfl
  case alt => obtain ⟨_, _, rfl⟩ := EncA_ifc h; rfl
  all_goals (subst h; rfl)
theorem exV_sim {v : SV} {a : AV} (h : VR v a) : exV a = exVS v := by
  unfold exV exVS
  rw [VR_pan h]
  cases panS v <;> rfl
theorem exA_sim {ms : MS} {m : MA} (hm : MR ms m) {v : SV} {a : AV} (h : VR v a) : exA m a = exS ms v := by
  cases ms <;> simp only [MR] at hm
  case pure => obtain ⟨_, rfl, _⟩ := hm; rfl
  case newbox => obtain ⟨_, rfl, _⟩ := hm; rfl
  case newrow => obtain ⟨_, _, rfl, _⟩ := hm; rfl
  case newe => subst hm; rfl
  case newlst => obtain ⟨_, rfl, _⟩ := hm; rfl
  case load => subst hm; rfl
  case store => obtain ⟨_, rfl, _⟩ := hm; rfl
  case loadx => obtain ⟨_, rfl⟩ := hm; rfl
  case storex => obtain ⟨_, rfl, _⟩ := hm; rfl
  case append => obtain ⟨_, _, rfl, _⟩ := hm; rfl
  case copy => obtain ⟨_, _, rfl, _⟩ := hm; rfl
  case call => obtain ⟨_, rfl, _⟩ := hm; exact exV_sim h
  case callp => obtain ⟨_, rfl, _⟩ := hm; exact exV_sim h
  case yld => obtain ⟨_, rfl, _⟩ := hm; rfl
  case pan => subst hm; exact exV_sim h
  case newm => obtain ⟨rfl, _⟩ := hm; rfl
  case mlen => subst hm; rfl
  case mget => obtain ⟨_, _, rfl, _⟩ := hm; rfl
  case mset => obtain ⟨_, _, rfl, _⟩ := hm; rfl
  case mdel => obtain ⟨_, rfl, _⟩ := hm; rfl
theorem any_any : VR .any .any := by simp only [VR]; exact fun g => by cases g <;> rfl
theorem vA_sim {ms : MS} {m : MA} (hm : MR ms m) {v : SV} {a : AV} (h : VR v a) : VR (vS ms v) (vA m a) := by
  unfold vS vA
  rw [exA_sim hm h]
  cases exS ms v <;> first | exact h | exact any_any
theorem step_log {C : Cfg} {tab : Tab} {ops : Array Oper} {o : Oper} {σ σ' : SSt} {e : Ex} (h : (stepS C tab ops o σ).run = some (e, σ')) : σ.log <+: σ'.log := by
  unfold stepS at h
  rw [T.run_bind, Option.bind_eq_some_iff] at h
  obtain ⟨⟨w, ts'⟩, hw, h⟩ := h
  cases w with
  | false =>
    simp only [T.run, Option.some.injEq, Prod.mk.injEq] at h
    obtain ⟨-, rfl⟩ := h
    exact List.prefix_refl _
  | true =>
    simp only [T.run_bind, Option.bind_eq_some_iff] at h
    obtain ⟨ms, hms, r, hra, h⟩ := h
    simp only [T.run, Option.some.injEq, Prod.mk.injEq] at h
    obtain ⟨-, rfl⟩ := h
    exact actL_log hra
theorem fzIS_log {σ σ' : SSt} {t : Nat} (h : (fzIS σ t).run = some σ') : σ'.log = σ.log := by
  unfold fzIS at h
  split at h
  · split at h
    · split at h
      · cases h
      · obtain ⟨-, h⟩ := T.run_needs _ _ _ h
        split at h
        · simp only [T.run, Option.some.injEq] at h
          subst h
          rfl
        · cases h
    · simp only [T.run, Option.some.injEq] at h
      subst h
      rfl
    · cases h
  · cases h
theorem fzLS_log : ∀ {l : List Nat} {σ σ' : SSt}, (fzLS l σ).run = some σ' → σ'.log = σ.log
  | [], σ, σ', h => by
    simp only [fzLS, T.run, Option.some.injEq] at h
    rw [h]
  | t :: l, σ, σ', h => by
    simp only [fzLS, T.run_bind, Option.bind_eq_some_iff] at h
    obtain ⟨σ1, h1, h2⟩ := h
    split at h1
    · unfold fzTS at h1
      obtain ⟨-, h1⟩ := T.run_needs _ _ _ h1
      simp only [T.run, Option.some.injEq] at h1
      subst h1
      have := fzLS_log h2
      exact this
    · rw [fzLS_log h2, fzIS_log h1]
theorem runS_log {C : Cfg} {tab : Tab} {ops : Array Oper} : ∀ {l : List Oper} {σ σ' : SSt} {e : Ex}, (runS C tab ops l σ).run = some (e, σ') → σ.log <+: σ'.log
  | [], σ, σ', e, h => by
    simp only [runS, T.run, Option.some.injEq, Prod.mk.injEq] at h
    obtain ⟨-, rfl⟩ := h
    exact List.prefix_refl _
  | o :: l, σ, σ', e, h => by
    simp only [runS, T.run_bind, Option.bind_eq_some_iff] at h
    obtain ⟨σ0, h0, ⟨e1, σ1⟩, h1, h2⟩ := h
    rw [← fzLS_log h0]
    refine (step_log h1).trans ?_
    cases e1 with
    | normal => exact runS_log h2
    | _ =>
      simp only [T.run, Option.some.injEq, Prod.mk.injEq] at h2
      obtain ⟨-, rfl⟩ := h2
      exact List.prefix_refl _
theorem runDS_log {C : Cfg} {tab : Tab} {ops : Array Oper} {deps : Array Nat} {m : Nat} : ∀ {l : List (Oper × Nat)} {done : List Done} {σ σ' : SSt} {e : Ex}, (runDS C tab ops deps m l done σ).run = some (e, σ') → σ.log <+: σ'.log
  | [], done, σ, σ', e, h => by
    simp only [runDS, T.run, Option.some.injEq, Prod.mk.injEq] at h
    obtain ⟨-, rfl⟩ := h
    exact List.prefix_refl _
  | (o, i) :: l, done, σ, σ', e, h => by
    unfold runDS at h
    rw [T.run_bind, Option.bind_eq_some_iff] at h
    obtain ⟨⟨w, ts'⟩, hw, h⟩ := h
    cases w with
    | false => exact runDS_log (l := l) (σ := { tmps := putS o.dst .und ts', h := σ.h, log := σ.log }) h
    | true =>
      simp only [T.run_bind, Option.bind_eq_some_iff] at h
      obtain ⟨ms, hms, h⟩ := h
      split at h
      · cases h
      simp only [T.run_bind, Option.bind_eq_some_iff] at h
      obtain ⟨r, hra, h⟩ := h
      refine (actL_log hra).trans ?_
      split at h
      · exact runDS_log (l := l) h
      · split at h
        · simp only [T.run, Option.some.injEq, Prod.mk.injEq] at h
          obtain ⟨-, rfl⟩ := h
          exact List.prefix_refl _
        · cases h
theorem drawS_log {C : Cfg} {tab : Tab} {ops : Array Oper} {σ σ' : SSt} {e : Ex} (h : (drawS C tab ops σ).run = some (e, σ')) : σ.log <+: σ'.log := by
  unfold drawS at h
  rw [T.run_bind, Option.bind_eq_some_iff] at h
  obtain ⟨⟨e1, σ1⟩, h1, h2⟩ := h
  split at h2
  · simp only [T.run, Option.some.injEq, Prod.mk.injEq] at h2
    obtain ⟨-, rfl⟩ := h2
    exact runDS_log h1
  · simp only [T.run, Option.some.injEq, Prod.mk.injEq] at h2
    obtain ⟨-, rfl⟩ := h2
    exact runDS_log (σ' := σ1) h1
section
variable {C : Cfg} (hC : ∀ t Y, C.ty t = some Y → tyOf C.P t = some Y) {tab : Tab} {n : Nat} (hS : SpOK C tab n) (hY : ∀ Y, tab.y = some Y → YOK Y)
variable {S : Type} {H : Option (Hd S)} {P : Nat → S → Prop} {Lg : List (List D)} (hcs : ConsOK tab.y tab.q H P Lg)
include hC hS hY hcs
theorem step_sim {ops : Array Oper} {o : Oper} {σ σ' : SSt} {e : Ex} {τ : St} (h : (stepS C tab ops o σ).run = some (e, σ')) (hp : σ'.log <+: Lg) (hr : SSR σ τ) {s : S} (hs : P σ.log.length s) : ∃ τ' s', stepA C (callA C n) H ops o τ s = some (e, τ', s') ∧ P σ'.log.length s' ∧ SSR σ' τ' := by
  unfold stepS at h
  rw [T.run_bind, Option.bind_eq_some_iff] at h
  obtain ⟨⟨w, ts'⟩, hw, h⟩ := h
  obtain ⟨hw1, hw2⟩ := wanted_sim hw hr.1
  unfold stepA
  rw [hw1]
  cases w with
  | false =>
    simp only [T.run, Option.some.injEq, Prod.mk.injEq] at h
    obtain ⟨rfl, rfl⟩ := h
    exact ⟨_, s, rfl, hs, put_sim hw2 _ und_sim, hr.2⟩
  | true =>
    simp only [T.run_bind, Option.bind_eq_some_iff] at h
    obtain ⟨ms, hms, r, hra, h⟩ := h
    simp only [T.run, Option.some.injEq, Prod.mk.injEq] at h
    obtain ⟨rfl, rfl⟩ := h
    -- the guard's slot reads as before
    obtain ⟨m, hm, hmr⟩ := planS_sim hC (evS_sim hw2) hms
    obtain ⟨r', hr', hrs, hrr⟩ := actL_sim hS hY hcs hr.2.2 hra hp hmr hs
    rw [hr.2.1] at hr'
    simp only [hm, hr']
    refine ⟨_, _, by rw [exA_sim hmr hrr.v], hrs, put_sim hw2 _ (vA_sim hmr hrr.v), ?_⟩
    simp only
    rw [hr.2.1]
    exact HR.puts _ (HR.ups hr.2 hrr.ups) hrr.len hrr.news
omit hC hS hY hcs in
theorem UR_killM (ms : List Nat) : UR (ms.map fun i => (i, none)) (ms.map fun i => (i, none)) := by
  induction ms with
  | nil => simp only [List.map_nil, UR]
  | cons m ms ih =>
    simp only [List.map_cons, UR]
    exact ⟨_, _, rfl, rfl, trivial, ih⟩
omit hC hS hY hcs in
theorem VRL_fzk {ls : Nat → Option SB} {l : Nat → Option Blk} (hl : ∀ i, OR (ls i) (l i)) : ∀ {cs : List SV} {vs : List AV}, VRL cs vs → (∀ c ∈ cs.flatMap (fzkN ls deep), c = true) → VRL (cs.map (fzkS ls deep)) (vs.map (fzk l deep))
  | [], vs, h, _ => by simp only [VRL] at h; subst h; exact VRL_nil
  | c :: cs, vs, h, hn => by
    simp only [VRL] at h
    obtain ⟨v, r, rfl, h1, h2⟩ := h
    exact VRL_cons (fzk_sim hl deep c v h1 fun d hd => hn d (by rw [List.flatMap_cons, List.mem_append]; exact .inl hd)) (VRL_fzk hl h2 fun d hd => hn d (by rw [List.flatMap_cons, List.mem_append]; exact .inr hd))
omit hC hS hY hcs in
theorem ksOf_len : ∀ {vs : List SV} {ks : List K}, ksOf vs = some ks → ks.length = vs.length
  | [], ks, h => by simp only [ksOf, Option.some.injEq] at h; subst h; rfl
  | v :: vs, ks, h => by
    simp only [ksOf] at h
    split at h
    · rename_i k kr h1 h2
      cases h
      simp [ksOf_len h2]
    · cases h
omit hC hS hY hcs in
theorem fzk_encA {look : Nat → Option Blk} {f : Nat} : ∀ {a : KA} {q : Nat} {c : List D} {v : AV}, EncA a q c v → fzk look (f + 1) v = v
  | .nil, _, _, _, h => by simp only [EncA] at h
  | .cons t ks r, q, c, v, h => by
    simp only [EncA] at h
    rcases h with ⟨-, -, vs, rfl, -⟩ | ⟨-, h⟩
    · simp only [fzk]
    · exact fzk_encA h
omit hC hS hY hcs in
theorem fzk_encV {look : Nat → Option Blk} {k : K} {d : D} {v : AV} (h : EncV k d v) : fzk look deep v = v := by
  show fzk look (11 + 1) v = v
  cases k with
  | int k => simp only [EncV] at h; subst h; simp only [fzk]
  | bool => simp only [EncV] at h; subst h; simp only [fzk]
  | ro ks =>
    simp only [EncV] at h
    rcases h with ⟨rfl, -⟩ | ⟨kd, c0, es, rfl, -⟩
    · simp only [fzk]
    · simp only [fzk]
  | opt ks =>
    simp only [EncV] at h
    rcases h with ⟨-, rfl⟩ | ⟨kd, vs, c, r, -, rfl, -⟩
    · simp only [fzk]
    · simp only [fzk]
  | alt a =>
    simp only [EncV] at h
    exact fzk_encA h
omit hC hS hY hcs in
theorem fzk_encC {look : Nat → Option Blk} : ∀ {ks : List K} {c : List D} {j : Nat} {e : List AV}, EncC ks c j e → e.map (fzk look deep) = e
  | [], _, _, e, h => by simp only [EncC] at h; subst h; rfl
  | k :: ks, c, j, e, h => by
    simp only [EncC] at h
    obtain ⟨v, vs, rfl, h1, h2⟩ := h
    rw [List.map_cons, fzk_encV h1, fzk_encC h2]
omit hC hS hY hcs in
theorem fzI_sim {σ σ' : SSt} {τ : St} {t : Nat} (h : (fzIS σ t).run = some σ') (hr : SSR σ τ) : SSR σ' (fzI τ t) := by
  have hv : VR ((σ.tmps[t]?).getD .und) ((τ.tmps[t]?).getD .und) := by
    cases e1 : σ.tmps[t]? with
    | none =>
      rw [VRL_none hr.1 e1]
      simp only [Option.getD_none, VR]
    | some c =>
      obtain ⟨v, h3, h4⟩ := VRL_get hr.1 e1
      rw [h3]
      exact h4
  unfold fzIS at h
  split at h
  case h_2 => cases h
  rename_i i s0 n he
  rw [he] at hv
  simp only [VR] at hv
  obtain ⟨cap, hv⟩ := hv
  split at h
  case h_3 => cases h
  case h_2 =>
    rename_i ks l hs
    simp only [T.run, Option.some.injEq] at h
    subst h
    unfold fzI
    rw [hv]
    simp only
    have hO := hr.2.2 i
    rw [hs] at hO
    obtain ⟨B, hB, hBR⟩ := OR_some hO
    rw [hB]
    split
    case h_2 => exact hr
    rename_i s2 es2 hBe
    cases hBe
    split
    · exact hr
    obtain ⟨e1, hE⟩ := hBR
    have h0 : fzIM τ es2 = [] := by
      unfold fzIM
      have : (es2.flatMap fun e => e.flatMap (ids deep)) = [] := by
        rw [List.flatMap_eq_nil_iff]
        intro e he
        rw [List.flatMap_eq_nil_iff]
        intro v hv
        exact EncE_noIds hE e he v hv deep
      rw [this]
      rfl
    have hi : i < τ.h.length := by
      by_cases hi : i < τ.h.length
      · exact hi
      · unfold hget at hB
        rw [List.getElem?_eq_none (by omega)] at hB
        cases hB
    refine ⟨hr.1, ?_⟩
    show HR σ.h (hups (hset τ.h i (some (.row s2 (fzIE τ es2) false))) ((fzIM τ es2).map fun i => (i, none)))
    rw [h0]
    show HR σ.h (hset τ.h i (some (.row s2 (fzIE τ es2) false)))
    refine ⟨by rw [length_hset, hr.2.1]; omega, fun j => ?_⟩
    rw [hget_hset]
    split
    · rename_i e
      subst e
      rw [hs]
      refine ⟨e1, ?_⟩
      unfold fzIE
      exact EncE_map hE fun c e he => by rw [fzk_encC he]; exact he
    · exact hr.2.2 j
  rename_i s1 es hs
  split at h
  · cases h
  rename_i hcond
  obtain ⟨hneed, h⟩ := T.run_needs _ _ _ h
  split at h
  case h_2 => cases h
  rename_i p hp
  simp only [T.run, Option.some.injEq] at h
  subst h
  have hO := hr.2.2 i
  rw [hs] at hO
  obtain ⟨B, hB, hBR⟩ := OR_some hO
  cases B with
  | map kvs => exact hBR.elim
  | row s2 es2 fl =>
    obtain ⟨e1, hLL, hlen, hfl⟩ := hBR
    subst e1
    rw [Bool.or_eq_true, not_or] at hcond
    obtain ⟨hc1, hc2⟩ := hcond
    have hM : fzIMS σ es = fzIM τ es2 := by
      unfold fzIMS fzIM
      rw [← VRLL.ids hLL]
      exact (reach_eq hr.2.2 _ _ _).symm
    have hflf : fl = false := by
      cases hf : fl with
      | false => rfl
      | true =>
        exfalso
        apply hc2
        rw [List.all_eq_true]
        intro e hee
        rw [List.all_eq_true]
        intro v hvv
        obtain ⟨k, hk, rfl⟩ := List.mem_iff_getElem.1 hee
        have hk2 : k < es2.length := by rw [← hLL.1]; exact hk
        have hVR := hLL.2 k es[k] es2[k] (List.getElem?_eq_getElem hk) (List.getElem?_eq_getElem hk2)
        obtain ⟨j, hj, rfl⟩ := List.mem_iff_getElem.1 hvv
        obtain ⟨u, hu, hvu⟩ := VRL_get hVR (List.getElem?_eq_getElem hj)
        have hmem : u ∈ es2[k] := List.mem_of_getElem? hu
        have := hfl hf es2[k] (List.getElem_mem hk2) u hmem deep
        rw [ids_eq deep _ _ hvu] at this
        rw [this]
        rfl
    subst hflf
    have hl : ∀ i, OR (if (fzIMS σ es).contains i then sget σ.h i else none) (if (fzIM τ es2).contains i then hget τ.h i else none) := fun i => by
      rw [hM]
      split
      · exact hr.2.2 i
      · trivial
    have hc1' : (fzIM τ es2).contains i = false := by rw [← hM]; simpa using hc1
    have hfz : fzI τ t = { τ with h := hups (hset τ.h i (some (.row s2 (fzIE τ es2) false))) ((fzIM τ es2).map fun i => (i, none)) } := by
      unfold fzI
      rw [hv]
      simp only [hB, hc1', Bool.false_eq_true, if_false]
    rw [hfz]
    refine ⟨hr.1, ?_⟩
    show HR (sups (sset σ.h i (some (.row p.1 p.2))) ((fzIMS σ es).map fun i => (i, none))) _
    rw [hM]
    refine HR.ups (HR.set hr.2 i ?_) (UR_killM _)
    have hL2 : ∀ (k : Nat) v e, (fzIES σ es)[k]? = some v → (fzIE τ es2)[k]? = some e → VRL v e := fun k v e h1 h2 => by
      unfold fzIES at h1
      unfold fzIE at h2
      rw [List.getElem?_map, Option.map_eq_some_iff] at h1 h2
      obtain ⟨c, h3, rfl⟩ := h1
      obtain ⟨d, h4, rfl⟩ := h2
      exact VRL_fzk hl (hLL.2 k c d h3 h4) fun x hx => hneed x (by rw [List.mem_flatMap]; exact ⟨c, List.mem_of_getElem? h3, hx⟩)
    rw [Option.bind_eq_some_iff] at hp
    obtain ⟨ks, hks, hp⟩ := hp
    rw [Option.map_eq_some_iff] at hp
    obtain ⟨l, hl', rfl⟩ := hp
    refine ⟨?_, toDss_enc hl' (by unfold fzIES fzIE; rw [List.length_map, List.length_map]; exact hLL.1) hL2⟩
    have hne : es ≠ [] := fun e => hc2 (by rw [e]; rfl)
    cases hes : es with
    | nil => exact absurd hes hne
    | cons c0 cr =>
      have h0 : ks.length = c0.length := by
        have := ksOf_len hks
        unfold fzIES at this
        rw [hes] at this
        simpa using this
      have hk2 : 0 < es2.length := by rw [← hLL.1, hes]; simp
      have hVR := hLL.2 0 c0 es2[0] (by rw [hes]; rfl) (List.getElem?_eq_getElem hk2)
      have hl0 := hlen es2[0] (List.getElem_mem hk2)
      rw [h0, ← hl0]
      exact (VRL_length hVR).symm
omit hC hS hY hcs in
theorem fzL_sim : ∀ {l : List Nat} {σ σ' : SSt} {τ : St}, (fzLS l σ).run = some σ' → SSR σ τ → SSR σ' (fzL l τ) ∧ σ'.log = σ.log
  | [], σ, σ', τ, h, hr => by
    simp only [fzLS, T.run, Option.some.injEq] at h
    subst h
    exact ⟨hr, rfl⟩
  | t :: l, σ, σ', τ, h, hr => by
    simp only [fzLS, T.run_bind, Option.bind_eq_some_iff] at h
    obtain ⟨σ1, h1, h2⟩ := h
    unfold fzL
    split at h1
    case isFalse hge =>
      rw [if_neg hge]
      have := fzI_sim h1 hr
      obtain ⟨k1, k2⟩ := fzL_sim (l := l) h2 this
      exact ⟨k1, k2.trans (fzIS_log h1)⟩
    case isTrue hlt =>
    rw [if_pos hlt]
    unfold fzTS at h1
    obtain ⟨hneed, h1⟩ := T.run_needs _ _ _ h1
    simp only [T.run, Option.some.injEq] at h1
    subst h1
    have hv : VR ((σ.tmps[t]?).getD .und) ((τ.tmps[t]?).getD .und) := by
      cases e1 : σ.tmps[t]? with
      | none =>
        rw [VRL_none hr.1 e1]
        simp only [Option.getD_none, VR]
      | some c =>
        obtain ⟨v, h3, h4⟩ := VRL_get hr.1 e1
        rw [h3]
        exact h4
    have hM : fzMS σ t = fzM τ t := by
      unfold fzMS fzM
      rw [ids_eq deep _ _ hv]
      exact (reach_eq hr.2.2 _ _ _).symm
    have hl : ∀ i, OR (if (fzMS σ t).contains i then sget σ.h i else none) (if (fzM τ t).contains i then hget τ.h i else none) := fun i => by
      rw [hM]
      split
      · exact hr.2.2 i
      · trivial
    obtain ⟨k1, k2⟩ := fzL_sim (l := l) (τ := fzT τ t) h2 ⟨VRL_set t hr.1 (fzk_sim hl deep _ _ hv hneed), by rw [hM]; exact HR.ups hr.2 (UR_killM _)⟩
    exact ⟨k1, k2⟩
theorem runS_sim {ops : Array Oper} : ∀ {l : List Oper} {σ σ' : SSt} {e : Ex} {τ : St}, (runS C tab ops l σ).run = some (e, σ') → σ'.log <+: Lg → SSR σ τ → ∀ {s : S}, P σ.log.length s → ∃ τ' s', runA C (callA C n) H ops l τ s = some (e, τ', s') ∧ P σ'.log.length s' ∧ SSR σ' τ'
  | [], σ, σ', e, τ, h, _, hr, s, hs => by
    simp only [runS, T.run, Option.some.injEq, Prod.mk.injEq] at h
    obtain ⟨rfl, rfl⟩ := h
    exact ⟨τ, s, rfl, hs, hr⟩
  | o :: l, σ, σ', e, τ, h, hp, hr, s, hs => by
    simp only [runS, T.run_bind, Option.bind_eq_some_iff] at h
    obtain ⟨σ0, h0, ⟨e1, σ1⟩, h1, h2⟩ := h
    obtain ⟨hr, hlg⟩ := fzL_sim h0 hr
    rw [← hlg] at hs
    cases e1 with
    | normal =>
      obtain ⟨τ1, s1, h3, hs1, h4⟩ := step_sim hC hS hY hcs h1 ((runS_log h2).trans hp) hr hs
      obtain ⟨τ2, s2, h5, hs2, h6⟩ := runS_sim (l := l) h2 hp h4 hs1
      exact ⟨τ2, s2, by simp only [runA, h3, h5], hs2, h6⟩
    | _ =>
      simp only [T.run, Option.some.injEq, Prod.mk.injEq] at h2
      obtain ⟨rfl, rfl⟩ := h2
      obtain ⟨τ1, s1, h3, hs1, h4⟩ := step_sim hC hS hY hcs h1 hp hr hs
      exact ⟨τ1, s1, by simp only [runA, h3], hs1, h4⟩
omit hC hS hY hcs in
theorem sid_eq {x : SV} {a : AV} (h : VR x a) : sid a = sidS x := by
  cases x <;> simp only [VR] at h
  case any => cases a <;> first | rfl | (have := h 1; simp [ids] at this)
  case agg => obtain ⟨_, rfl, _⟩ := h; rfl
  case tup => obtain ⟨_, rfl, _⟩ := h; rfl
  case eptr => obtain ⟨_, _, rfl, _⟩ := h; rfl
  case ro => rcases h with ⟨rfl, _⟩ | ⟨_, _, _, rfl, _⟩ <;> rfl
  case emp => rcases h with rfl | rfl <;> rfl
  case sl => obtain ⟨_, rfl⟩ := h; rfl
  case sub => obtain ⟨_, rfl⟩ := h; rfl
  case fn => obtain ⟨_, _, rfl, _⟩ := h; rfl
  case ifc => obtain ⟨_, rfl, _⟩ := h; rfl
  case opt => rcases h with ⟨_, rfl⟩ | ⟨_, _, _, _, _, rfl, _⟩ <;> rfl
  case alt => obtain ⟨_, _, rfl⟩ := EncA_ifc h; rfl
  all_goals (subst h; rfl)
omit hC hS hY hcs in
theorem touch_eq {ms : MS} {m : MA} (h : MR ms m) : touch C m = touchS C ms := by
  cases ms <;> simp only [MR] at h
  case pure => obtain ⟨_, rfl, _⟩ := h; rfl
  case newbox => obtain ⟨_, rfl, _⟩ := h; rfl
  case newrow => obtain ⟨_, _, rfl, _⟩ := h; rfl
  case newe => subst h; rfl
  case newlst => obtain ⟨_, rfl, _⟩ := h; rfl
  case load => subst h; rfl
  case store => obtain ⟨_, rfl, _⟩ := h; rfl
  case loadx => obtain ⟨_, rfl⟩ := h; rfl
  case storex => obtain ⟨_, rfl, _⟩ := h; rfl
  case append => obtain ⟨_, _, rfl, h1, h2, _⟩ := h; simp only [touch, touchS, sid_eq h1, sid_eq h2]
  case copy => obtain ⟨_, _, rfl, h1, h2⟩ := h; simp only [touch, touchS, sid_eq h1, sid_eq h2]
  case call => obtain ⟨_, rfl, _⟩ := h; rfl
  case callp => obtain ⟨_, rfl, _⟩ := h; rfl
  case yld => obtain ⟨_, rfl, _⟩ := h; rfl
  case pan => subst h; rfl
  case newm => obtain ⟨rfl, _⟩ := h; rfl
  case mlen => subst h; rfl
  case mget => obtain ⟨_, _, rfl, _⟩ := h; rfl
  case mset => obtain ⟨_, _, rfl, _⟩ := h; rfl
  case mdel => obtain ⟨_, rfl, _⟩ := h; rfl
theorem runDS_sim {ops : Array Oper} {deps : Array Nat} {m : Nat} : ∀ {l : List (Oper × Nat)} {done : List Done} {σ σ' : SSt} {e : Ex} {τ : St}, (runDS C tab ops deps m l done σ).run = some (e, σ') → σ'.log <+: Lg → SSR σ τ → ∀ {s : S}, P σ.log.length s →
    ∃ τ' s', runD C (callA C n) H ops deps m l done τ s = some (e, τ', s') ∧ P σ'.log.length s' ∧ SSR σ' τ'
  | [], done, σ, σ', e, τ, h, _, hr, s, hs => by
    simp only [runDS, T.run, Option.some.injEq, Prod.mk.injEq] at h
    obtain ⟨rfl, rfl⟩ := h
    exact ⟨τ, s, rfl, hs, hr⟩
  | (o, i) :: l, done, σ, σ', e, τ, h, hp, hr, s, hs => by
    unfold runDS at h
    rw [T.run_bind, Option.bind_eq_some_iff] at h
    obtain ⟨⟨w, ts'⟩, hw, h⟩ := h
    obtain ⟨hw1, hw2⟩ := wanted_sim hw hr.1
    unfold runD
    rw [hw1]
    cases w with
    | false => exact runDS_sim (l := l) (σ := { tmps := putS o.dst .und ts', h := σ.h, log := σ.log }) (τ := { τ with tmps := put o.dst .und τ.tmps }) h hp ⟨put_sim hw2 _ und_sim, hr.2⟩ hs
    | true =>
      simp only [T.run_bind, Option.bind_eq_some_iff] at h
      obtain ⟨ms, hms, h⟩ := h
      obtain ⟨ma, hm, hmr⟩ := planS_sim hC (evS_sim hw2) hms
      simp only [hm]
      have ht := touch_eq (C := C) hmr
      rw [ht]
      split at h
      · cases h
      rename_i hcl
      rw [if_neg hcl]
      simp only [T.run_bind, Option.bind_eq_some_iff] at h
      obtain ⟨r, hra, h⟩ := h
      have hlook : ∀ id, OR (if visible m done (deps.getD i 0) id && (decide ((touchS C ms).cls = 3 ∨ (touchS C ms).cls = 4) || (touchS C ms).is.contains id) then sget σ.h id else none)
          (if visible m done (deps.getD i 0) id && (decide ((touchS C ms).cls = 3 ∨ (touchS C ms).cls = 4) || (touchS C ms).is.contains id) then hget τ.h id else none) := fun id => by
        split
        · exact hr.2.2 id
        · trivial
      cases hex : exS ms r.1.v with
      | normal =>
        simp only [hex] at h
        obtain ⟨r', hr', hrs, hrr⟩ := actL_sim hS hY hcs hlook hra ((runDS_log (l := l) h).trans hp) hmr hs
        rw [hr.2.1] at hr'
        simp only [hr', exA_sim hmr hrr.v, hex]
        have := runDS_sim (l := l) (τ := { tmps := put o.dst r'.v τ.tmps, h := hputs (hups τ.h r'.ups) τ.h.length r'.news }) h hp ⟨put_sim hw2 _ hrr.v, by
          simp only
          rw [hr.2.1]
          exact HR.puts _ (HR.ups hr.2 hrr.ups) hrr.len hrr.news⟩ hrs
        rw [hr.2.1, hrr.len] at this
        exact this
      | _ =>
        simp only [hex] at h
        split at h
        case isFalse => cases h
        rename_i hc
        simp only [T.run, Option.some.injEq, Prod.mk.injEq] at h
        obtain ⟨rfl, rfl⟩ := h
        obtain ⟨r', hr', hrs, hrr⟩ := actL_sim hS hY hcs hlook hra hp hmr hs
        rw [hr.2.1] at hr'
        simp only [hr', exA_sim hmr hrr.v, hex, if_pos hc]
        refine ⟨_, _, rfl, hrs, put_sim hw2 _ hrr.v, ?_⟩
        simp only
        rw [hr.2.1]
        exact HR.puts _ (HR.ups hr.2 hrr.ups) hrr.len hrr.news
omit hC hS hY hcs in
theorem strike_tmps : ∀ (l : List Oper) {ts : List SV} {as : List AV}, VRL ts as → VRL (strikeTS l ts) (strikeT l as)
  | [], _, _, h => h
  | o :: l, _, _, h => strike_tmps l (put_sim h o.dst any_any)
theorem drawS_sim {ops : Array Oper} {σ σ' : SSt} {e : Ex} {τ : St} (h : (drawS C tab ops σ).run = some (e, σ')) (hp : σ'.log <+: Lg) (hr : SSR σ τ) {s : S} (hs : P σ.log.length s) :
    ∃ τ' s', drawA C (callA C n) H ops τ s = some (e, τ', s') ∧ P σ'.log.length s' ∧ SSR σ' τ' := by
  unfold drawS at h
  rw [T.run_bind, Option.bind_eq_some_iff] at h
  obtain ⟨⟨e1, σ1⟩, h1, h2⟩ := h
  unfold drawA
  cases e1 with
  | normal =>
    simp only [T.run, Option.some.injEq, Prod.mk.injEq] at h2
    obtain ⟨rfl, rfl⟩ := h2
    obtain ⟨τ', s', h3, hs', h4⟩ := runDS_sim hC hS hY hcs h1 hp hr hs
    rw [hr.2.1] at h3
    exact ⟨τ', s', by simp only [h3], hs', h4⟩
  | _ =>
    simp only [T.run, Option.some.injEq, Prod.mk.injEq] at h2
    obtain ⟨rfl, rfl⟩ := h2
    obtain ⟨τ', s', h3, hs', h4⟩ := runDS_sim hC hS hY hcs h1 hp hr hs
    have h3' := h3
    rw [hr.2.1] at h3
    refine ⟨_, _, by simp only [h3] <;> rfl, hs', strike_tmps _ hr.1, ?_⟩
    simp only
    rw [hr.2.1, h4.2.1]
    refine ⟨by simp [hr.2.1], fun i => ?_⟩
    have e1 : sget (σ.h ++ List.replicate (τ'.h.length - τ.h.length) none) i = sget σ.h i := by
      unfold sget
      rw [List.getElem?_append]
      split
      · rfl
      · rename_i hlt
        rw [List.getElem?_replicate, List.getElem?_eq_none (by omega)]
        split <;> rfl
    have e2 : hget (τ.h ++ List.replicate (τ'.h.length - τ.h.length) none) i = hget τ.h i := by
      unfold hget
      rw [List.getElem?_append]
      split
      · rfl
      · rename_i hlt
        rw [List.getElem?_replicate, List.getElem?_eq_none (by omega)]
        split <;> rfl
    rw [e1, e2]
    exact hr.2.2 i
omit hC hS hY hcs in
def CodeSim (C : Cfg) (n k : Nat) (f : FuncId) (c : Code) (Y : Option YS) (q : Nat) (L : SSt → T (Ex × SSt)) : Prop := ∀ σ e σ', (L σ).run = some (e, σ') → σ.log <+: σ'.log ∧ ∀ τ, SSR σ τ → ∀ (S : Type) (H : Option (Hd S)) (P : Nat → S → Prop) (Lg : List (List D)), ConsOK Y q H P Lg → σ'.log <+: Lg → ∀ s, P σ.log.length s →
  ∃ τ' s', execA C (callA C n) f k H c τ s = some (e, τ', s') ∧ P σ'.log.length s' ∧ SSR σ' τ'
omit hC hS hY hcs in
abbrev LoopSimY (C : Cfg) (n k : Nat) (f : FuncId) (b : Code) (Y : Option YS) (q : Nat) (L : SSt → T (Ex × SSt)) : Prop := CodeSim C n k f (.loop b) Y q L
omit hC hS hY hcs in
abbrev LoopSimK (C : Cfg) (n k : Nat) (f : FuncId) (b : Code) (L : SSt → T (Ex × SSt)) : Prop := LoopSimY C n k f b none 0 L
omit hC hS hY hcs in
abbrev LoopSim (C : Cfg) (n : Nat) (f : FuncId) (b : Code) (L : SSt → T (Ex × SSt)) : Prop := LoopSimK C n 0 f b L
omit hC hS hY hcs in
def LoopsOKK (C : Cfg) (tab : Tab) (n k : Nat) (f : FuncId) : Code → Prop
  | .loop b => ∀ L, tab.lp f (keyOf b) = some L → CodeSim C n k f (.loop b) tab.y tab.q L
  | .rangeFunc g ps a b => ∀ L, tab.rg f (keyOf b) = some L → CodeSim C n k f (.rangeFunc g ps a b) tab.y tab.q L
  | .seq a b => LoopsOKK C tab n k f a ∧ LoopsOKK C tab n k f b
  | .cond _ a b => LoopsOKK C tab n k f a ∧ LoopsOKK C tab n k f b
  | .block _ b => LoopsOKK C tab n k f b
  | .scope b => LoopsOKK C tab n k f b
  | _ => True
omit hC hS hY hcs in
abbrev LoopsOK (C : Cfg) (tab : Tab) (n : Nat) (f : FuncId) (c : Code) : Prop := LoopsOKK C tab n 0 f c
omit hC hS hY hcs in
theorem exec_log {f : FuncId} {k : Nat} : ∀ (c : Code), LoopsOKK C tab n k f c → ∀ {σ σ' : SSt} {e : Ex}, (execS C tab f c σ).run = some (e, σ') → σ.log <+: σ'.log := by
  intro c
  induction c with
  | skip =>
    intro _ σ σ' e h
    simp only [execS, T.run, Option.some.injEq, Prod.mk.injEq] at h
    obtain ⟨rfl, rfl⟩ := h
    exact List.prefix_refl _
  | label l =>
    intro _ σ σ' e h
    simp only [execS, T.run, Option.some.injEq, Prod.mk.injEq] at h
    obtain ⟨rfl, rfl⟩ := h
    exact List.prefix_refl _
  | region id ops draw =>
    intro _ σ σ' e h
    simp only [execS] at h
    cases draw with
    | true => exact drawS_log h
    | false => exact runS_log h
  | seq a b iha ihb =>
    intro hl σ σ' e h
    simp only [LoopsOKK] at hl
    simp only [execS, T.run_bind, Option.bind_eq_some_iff] at h
    obtain ⟨⟨e1, σ1⟩, h1, h2⟩ := h
    refine (iha hl.1 h1).trans ?_
    cases e1 with
    | normal => exact ihb hl.2 h2
    | exit id =>
      simp only [T.run, Option.some.injEq, Prod.mk.injEq] at h2
      obtain ⟨rfl, rfl⟩ := h2
      exact List.prefix_refl _
    | ret =>
      simp only [T.run, Option.some.injEq, Prod.mk.injEq] at h2
      obtain ⟨rfl, rfl⟩ := h2
      exact List.prefix_refl _
    | pan t =>
      simp only [T.run, Option.some.injEq, Prod.mk.injEq] at h2
      obtain ⟨rfl, rfl⟩ := h2
      exact List.prefix_refl _
  | cond c a b iha ihb =>
    intro hl σ σ' e h
    simp only [LoopsOKK] at hl
    simp only [execS] at h
    split at h
    · rename_i t ht
      simp only [T.run] at h
      cases t with
      | true => exact iha hl.1 (by simpa using h)
      | false => exact ihb hl.2 (by simpa using h)
    · rename_i t ht
      cases t with
      | true => exact iha hl.1 h
      | false => exact ihb hl.2 h
    · cases h
  | block id b ih =>
    intro hl σ σ' e h
    simp only [LoopsOKK] at hl
    simp only [execS, T.run_bind, Option.bind_eq_some_iff] at h
    obtain ⟨⟨e1, σ1⟩, h1, h2⟩ := h
    refine (ih hl h1).trans ?_
    cases e1 <;> simp only [T.run, Option.some.injEq, Prod.mk.injEq] at h2 <;> obtain ⟨rfl, rfl⟩ := h2 <;> exact List.prefix_refl _
  | loop b ih =>
    intro hl σ σ' e h
    simp only [LoopsOKK] at hl
    simp only [execS] at h
    split at h
    · rename_i L hL
      exact (hl L hL σ e σ' h).1
    · cases h
  | scope b ih =>
    intro hl σ σ' e h
    simp only [LoopsOKK] at hl
    simp only [execS] at h
    exact ih hl h
  | exit id =>
    intro _ σ σ' e h
    simp only [execS, T.run, Option.some.injEq, Prod.mk.injEq] at h
    obtain ⟨rfl, rfl⟩ := h
    exact List.prefix_refl _
  | ret =>
    intro _ σ σ' e h
    simp only [execS, T.run, Option.some.injEq, Prod.mk.injEq] at h
    obtain ⟨rfl, rfl⟩ := h
    exact List.prefix_refl _
  | rangeFunc g ps a b _ _ =>
    intro hl σ σ' e h
    simp only [LoopsOKK] at hl
    simp only [execS] at h
    split at h
    · rename_i L hL
      exact (hl L hL σ e σ' h).1
    · cases h
  | goto l => intro _ σ σ' e h; simp [execS, T.run] at h
  | refuse w => intro _ σ σ' e h; simp [execS, T.run] at h
theorem exec_sim {f : FuncId} {k : Nat} : ∀ (c : Code), LoopsOKK C tab n k f c → ∀ {σ σ' : SSt} {e : Ex} {τ : St}, (execS C tab f c σ).run = some (e, σ') → σ'.log <+: Lg → SSR σ τ → ∀ {s : S}, P σ.log.length s → ∃ τ' s', execA C (callA C n) f k H c τ s = some (e, τ', s') ∧ P σ'.log.length s' ∧ SSR σ' τ' := by
  intro c
  induction c with
  | skip =>
    intro _ σ σ' e τ h hp hr s hs
    simp only [execS, T.run, Option.some.injEq, Prod.mk.injEq] at h
    obtain ⟨rfl, rfl⟩ := h
    exact ⟨τ, s, rfl, hs, hr⟩
  | label l =>
    intro _ σ σ' e τ h hp hr s hs
    simp only [execS, T.run, Option.some.injEq, Prod.mk.injEq] at h
    obtain ⟨rfl, rfl⟩ := h
    exact ⟨τ, s, rfl, hs, hr⟩
  | region id ops draw =>
    intro _ σ σ' e τ h hp hr s hs
    simp only [execS] at h
    cases draw with
    | true =>
      obtain ⟨τ', s', h3, hs', h4⟩ := drawS_sim hC hS hY hcs h hp hr hs
      exact ⟨τ', s', by simp only [execA, if_true, h3], hs', h4⟩
    | false =>
      obtain ⟨τ', s', h3, hs', h4⟩ := runS_sim hC hS hY hcs h hp hr hs
      exact ⟨τ', s', by simp only [execA, Bool.false_eq_true, if_false, h3], hs', h4⟩
  | seq a b iha ihb =>
    intro hl σ σ' e τ h hp hr s hs
    simp only [LoopsOKK] at hl
    simp only [execS, T.run_bind, Option.bind_eq_some_iff] at h
    obtain ⟨⟨e1, σ1⟩, h1, h2⟩ := h
    cases e1 with
    | normal =>
      obtain ⟨τ1, s1, h3, hs1, h4⟩ := iha hl.1 h1 ((exec_log b hl.2 h2).trans hp) hr hs
      obtain ⟨τ2, s2, h5, hs2, h6⟩ := ihb hl.2 h2 hp h4 hs1
      exact ⟨τ2, s2, by simp only [execA, h3, h5], hs2, h6⟩
    | exit id =>
      simp only [T.run, Option.some.injEq, Prod.mk.injEq] at h2
      obtain ⟨rfl, rfl⟩ := h2
      obtain ⟨τ1, s1, h3, hs1, h4⟩ := iha hl.1 h1 hp hr hs
      exact ⟨τ1, s1, by simp only [execA, h3], hs1, h4⟩
    | ret =>
      simp only [T.run, Option.some.injEq, Prod.mk.injEq] at h2
      obtain ⟨rfl, rfl⟩ := h2
      obtain ⟨τ1, s1, h3, hs1, h4⟩ := iha hl.1 h1 hp hr hs
      exact ⟨τ1, s1, by simp only [execA, h3], hs1, h4⟩
    | pan t =>
      simp only [T.run, Option.some.injEq, Prod.mk.injEq] at h2
      obtain ⟨rfl, rfl⟩ := h2
      obtain ⟨τ1, s1, h3, hs1, h4⟩ := iha hl.1 h1 hp hr hs
      exact ⟨τ1, s1, by simp only [execA, h3], hs1, h4⟩
  | cond c a b iha ihb =>
    intro hl σ σ' e τ h hp hr s hs
    simp only [LoopsOKK] at hl
    have hc := evS_sim hr.1 c
    simp only [execS] at h
    split at h
    · rename_i t ht
      rw [ht] at hc
      simp only [VR] at hc
      simp only [T.run] at h
      cases t with
      | true =>
        obtain ⟨τ', s', h1, hs', h2⟩ := iha hl.1 (by simpa using h) hp hr hs
        exact ⟨τ', s', by simp only [execA, hc, if_true, h1], hs', h2⟩
      | false =>
        obtain ⟨τ', s', h1, hs', h2⟩ := ihb hl.2 (by simpa using h) hp hr hs
        exact ⟨τ', s', by simp only [execA, hc, Bool.false_eq_true, if_false, h1], hs', h2⟩
    · rename_i t ht
      rw [ht] at hc
      simp only [VR] at hc
      cases t with
      | true =>
        obtain ⟨τ', s', h1, hs', h2⟩ := iha hl.1 h hp hr hs
        exact ⟨τ', s', by simp only [execA, hc, if_true, h1], hs', h2⟩
      | false =>
        obtain ⟨τ', s', h1, hs', h2⟩ := ihb hl.2 h hp hr hs
        exact ⟨τ', s', by simp only [execA, hc, Bool.false_eq_true, if_false, h1], hs', h2⟩
    · cases h
  | block id b ih =>
    intro hl σ σ' e τ h hp hr s hs
    simp only [LoopsOKK] at hl
    simp only [execS, T.run_bind, Option.bind_eq_some_iff] at h
    obtain ⟨⟨e1, σ1⟩, h1, h2⟩ := h
    have hlg : σ1.log = σ'.log := by
      cases e1 <;> simp only [T.run, Option.some.injEq, Prod.mk.injEq] at h2 <;> obtain ⟨-, rfl⟩ := h2 <;> rfl
    obtain ⟨τ1, s1, h3, hs1, h4⟩ := ih hl h1 (by rw [hlg]; exact hp) hr hs
    cases e1 with
    | exit id' =>
      simp only [T.run, Option.some.injEq, Prod.mk.injEq] at h2
      obtain ⟨rfl, rfl⟩ := h2
      refine ⟨τ1, s1, ?_, hs1, h4⟩
      simp only [execA, h3]
      split <;> rfl
    | normal =>
      simp only [T.run, Option.some.injEq, Prod.mk.injEq] at h2
      obtain ⟨rfl, rfl⟩ := h2
      exact ⟨τ1, s1, by simp only [execA, h3], hs1, h4⟩
    | ret =>
      simp only [T.run, Option.some.injEq, Prod.mk.injEq] at h2
      obtain ⟨rfl, rfl⟩ := h2
      exact ⟨τ1, s1, by simp only [execA, h3], hs1, h4⟩
    | pan t =>
      simp only [T.run, Option.some.injEq, Prod.mk.injEq] at h2
      obtain ⟨rfl, rfl⟩ := h2
      exact ⟨τ1, s1, by simp only [execA, h3], hs1, h4⟩
  | loop b ih =>
    intro hl σ σ' e τ h hp hr s hs
    simp only [LoopsOKK] at hl
    simp only [execS] at h
    split at h
    · rename_i L hL
      exact (hl L hL σ e σ' h).2 τ hr S H P Lg hcs hp s hs
    · cases h
  | scope b ih =>
    intro hl σ σ' e τ h hp hr s hs
    simp only [LoopsOKK] at hl
    simp only [execS] at h
    obtain ⟨τ', s', h1, hs', h2⟩ := ih hl h hp hr hs
    exact ⟨τ', s', by simp only [execA, h1], hs', h2⟩
  | exit id =>
    intro _ σ σ' e τ h hp hr s hs
    simp only [execS, T.run, Option.some.injEq, Prod.mk.injEq] at h
    obtain ⟨rfl, rfl⟩ := h
    exact ⟨τ, s, rfl, hs, hr⟩
  | ret =>
    intro _ σ σ' e τ h hp hr s hs
    simp only [execS, T.run, Option.some.injEq, Prod.mk.injEq] at h
    obtain ⟨rfl, rfl⟩ := h
    exact ⟨τ, s, rfl, hs, hr⟩
  | rangeFunc g ps a b _ _ =>
    intro hl σ σ' e τ h hp hr s hs
    simp only [LoopsOKK] at hl
    simp only [execS] at h
    split at h
    · rename_i L hL
      exact (hl L hL σ e σ' h).2 τ hr S H P Lg hcs hp s hs
    · cases h
  | goto l => intro _ σ σ' e τ h; simp [execS, T.run] at h
  | refuse w => intro _ σ σ' e τ h; simp [execS, T.run] at h
end
theorem keepOnly_sim (live : List Nat) : ∀ {ts : List SV} {as : List AV} (i : Nat), VRL ts as → VRL (keepOnlyS live i ts) (keepOnly live i as)
  | [], _, i, h => by simp only [VRL] at h; subst h; exact VRL_nil
  | c :: cs, _, i, h => by
    simp only [VRL] at h
    obtain ⟨v, vs, rfl, h1, h2⟩ := h
    simp only [keepOnlyS, keepOnly]
    refine VRL_cons ?_ (keepOnly_sim live (i + 1) h2)
    split
    · exact h1
    · simp only [VR]; exact noIds_plain fun _ => rfl
theorem gcList_eq {k : Nat} {vs : List SV} {as : List AV} {sh : SHeap} {h : Heap} (hv : VRL vs as) (hh : HR sh h) : gcList k as h = gcListS k vs sh := by
  unfold gcList gcListS
  simp only [ids_eqs hv, reach_eq hh.2]
theorem gcHeap_sim (kb ky : Bool) (R : List Nat) {sh : SHeap} {h : Heap} (hh : HR sh h) : HR (gcHeapS kb ky R sh) (gcHeap kb ky R h) := by
  refine ⟨by simp [gcHeapS, gcHeap], fun i => ?_⟩
  unfold gcHeapS gcHeap
  simp only [sget, hget, List.getElem?_map]
  cases hR : R[i]? with
  | none => trivial
  | some m =>
    simp only [Option.map_some, Option.getD_some]
    have := hh.2 m
    simp only [sget, hget] at this
    cases e : (sh[m]?).getD none with
    | none => rw [e] at this; rw [OR_none this]; trivial
    | some b =>
      rw [e] at this
      obtain ⟨B, hB, hr⟩ := OR_some this
      rw [hB]
      exact mvB_sim kb ky _ hr
theorem norm_sim {k : Nat} {live : List Nat} {σ : SSt} {τ : St} (h : SSR σ τ) : SSR (normS k live σ) (norm k live τ) := by
  have hk := keepOnly_sim live 0 h.1
  have hg := gcList_eq (k := k) hk h.2
  unfold normS norm
  simp only [hg]
  exact ⟨VRL_map (mv_sim true true _ deep) hk, gcHeap_sim true true _ h.2⟩
theorem gcOf_sim {C : Cfg} {k : Nat} {f : FuncId} {b : Code} {σ : SSt} {τ : St} (h : SSR σ τ) : SSR (gcOfS C k f b σ) (gcOf C k f b τ) := by
  unfold gcOfS gcOf
  cases C.ann f (keyOf b) with
  | none => exact h
  | some live => exact norm_sim h
section
variable {C : Cfg} (hC : ∀ t Y, C.ty t = some Y → tyOf C.P t = some Y) {tab : Tab} {n : Nat} (hS : SpOK C tab n) {f : FuncId}
include hC hS
omit hC hS in
def FnOK (C : Cfg) (n : Nat) (f : FuncId) (F : List SV → T (SV × SHeap)) : Prop := ∀ args v hb, (F args).run = some (v, hb) → ∀ avs, VRL args avs →
  ∃ v' h', callA C n Unit none f avs [] () = some (v', h', ()) ∧ VR v v' ∧ HR hb h'
omit hC hS in
theorem loadRS_sim {σ : SSt} {τ : St} (hr : HR σ.h τ.h) {c : SV} {a : AV} (hc : VR c a) {t : TypeId} {v : SV} (h : loadRS σ.h C c t = some v) : ∃ u, loadR τ.h C a t = some u ∧ VR v u := by
  unfold loadRS at h
  split at h
  · rename_i ty i s q j hty
    simp only [VR] at hc; subst hc
    split at h
    · rename_i cs hi
      split at h
      · rename_i hcond
        obtain ⟨rfl, rfl⟩ := hcond
        have := hr.2 i
        rw [hi] at this
        obtain ⟨B, hB, hbr⟩ := OR_some this
        obtain ⟨s', es, fl, rfl⟩ := BlkR_row hbr
        simp only [BlkR] at hbr
        obtain ⟨vs, rfl, rfl, hv, -⟩ := hbr
        simp only [loadR, hty, hB, if_true, List.getElem?_cons_zero]
        split at h
        · rename_i hag
          rw [if_pos hag]
          split at h
          · rename_i hle
            cases h
            rw [if_pos (by rw [← VRL_length hv]; exact hle)]
            exact ⟨_, rfl, by simp only [VR]; exact ⟨_, rfl, VRL_take _ (VRL_drop _ hv)⟩⟩
          · cases h
        · rename_i hag
          rw [if_neg hag]
          obtain ⟨u, hu, hr⟩ := VRL_get hv h
          exact ⟨u, hu, hr⟩
      · cases h
    · cases h
  · cases h
omit hC hS in
theorem getD_sim {ts : List SV} {as : List AV} (h : VRL ts as) (t : Nat) : VR ((ts[t]?).getD .und) ((as[t]?).getD .und) := by
  cases ht : ts[t]? with
  | none => rw [VRL_none h ht]; simp only [Option.getD_none, VR]
  | some c =>
    obtain ⟨v, hv, hr⟩ := VRL_get h ht
    rw [hv]; exact hr
omit hC hS in
theorem resultsS_sim {σ : SSt} {τ : St} (hr : SSR σ τ) : ∀ (rs : List ResultVar) {vs : List SV}, resultsS C σ rs = some vs → ∃ us, resultsA C τ rs = some us ∧ VRL vs us
  | [], vs, h => by
    simp only [resultsS, Option.some.injEq] at h; subst h
    exact ⟨[], rfl, VRL_nil⟩
  | .tmp t :: rs, vs, h => by
    simp only [resultsS] at h
    split at h
    · rename_i vs' h'
      cases h
      obtain ⟨us, h1, h2⟩ := resultsS_sim hr rs h'
      exact ⟨_, by simp only [resultsA, h1] <;> rfl, VRL_cons (getD_sim hr.1 t) h2⟩
    · cases h
  | .cell a t :: rs, vs, h => by
    simp only [resultsS] at h
    split at h
    · rename_i v vs' hv h'
      cases h
      obtain ⟨us, h1, h2⟩ := resultsS_sim hr rs h'
      obtain ⟨u, h3, h4⟩ := loadRS_sim hr.2 (getD_sim hr.1 a) hv
      exact ⟨_, by simp only [resultsA, h1, h3] <;> rfl, VRL_cons h4 h2⟩
    · cases h
omit hC hS in
theorem one_sim {vs : List SV} {us : List AV} (h : VRL vs us) : VR (oneOfS vs) (oneOf us) := by
  match vs, us, h with
  | [], us, h => simp only [VRL] at h; subst h; simp only [oneOfS, oneOf, VR]; exact ⟨[], rfl, VRL_nil⟩
  | [v], us, h =>
    simp only [VRL] at h
    obtain ⟨u, us', rfl, h1, rfl⟩ := h
    simpa only [oneOfS, oneOf] using h1
  | v :: v' :: vs, us, h =>
    have hh := h
    simp only [VRL] at h
    obtain ⟨u, us', rfl, h1, u2, us2, rfl, h2, h3⟩ := h
    simp only [oneOfS, oneOf, VR]
    exact ⟨_, rfl, hh⟩
omit hC hS in
theorem finish_sim {f : FuncId} {k : Nat} {fn : Func} {σ : SSt} {τ : St} (hr : SSR σ τ) {v : SV} {hb : SHeap} (h : finishSK C f k fn σ = some (v, hb)) : ∃ v' h', finishA C f k fn τ = some (v', h') ∧ VR v v' ∧ HR hb h' := by
  unfold finishSK at h
  split at h
  · cases h
  rename_i vs hvs
  split at h
  · cases h
  rename_i hfz
  cases h
  rw [Bool.or_eq_true, not_or] at hfz
  obtain ⟨us, h1, h2⟩ := resultsS_sim hr _ hvs
  have h3 := one_sim h2
  have hpn : ¬ (panOf (oneOf us)).isSome = true := by rw [VR_pan h3]; exact hfz.2
  have hg := gcList_eq (k := k) (VRL_cons h3 VRL_nil) hr.2
  refine ⟨_, _, by simp only [finishA, h1, if_neg hpn, if_neg hfz.1] <;> rfl, ?_, ?_⟩
  · rw [hg]; exact mv_sim true true _ deep _ _ h3
  · rw [hg]; exact gcHeap_sim true true _ hr.2
omit hC hS in
theorem finishZ_sim {f : FuncId} {fn : Func} {σ : SSt} {τ : St} (hr : SSR σ τ) {v : SV} {hb : SHeap} (hz : C.frz f = true) (h : (finishZ C fn σ).run = some (v, hb)) : ∃ v' h', finishA C f 0 fn τ = some (v', h') ∧ VR v v' ∧ HR hb h' := by
  unfold finishZ at h
  split at h
  · cases h
  rename_i vs hvs
  split at h
  · cases h
  rename_i hfz
  obtain ⟨hneed, h⟩ := T.run_needs _ _ _ h
  cases h
  obtain ⟨us, h1, h2⟩ := resultsS_sim hr _ hvs
  have h3 := one_sim h2
  have hpn : ¬ (panOf (oneOf us)).isSome = true := by rw [VR_pan h3]; exact hfz
  exact ⟨_, _, by simp only [finishA, h1, if_neg hpn, if_pos hz, if_true] <;> rfl, fzg_sim hr.2.2 deep _ _ h3 hneed, rfl, fun i => by simp only [sget, hget, List.getElem?_nil]; trivial⟩
omit hC hS in
theorem finishT_sim {f : FuncId} {fn : Func} {σ : SSt} {τ : St} (hr : SSR σ τ) {v : SV} {hb : SHeap} (h : (if C.frz f then finishZ C fn σ else T.ofO (finishS C f fn σ)).run = some (v, hb)) : ∃ v' h', finishA C f 0 fn τ = some (v', h') ∧ VR v v' ∧ HR hb h' := by
  by_cases hz : C.frz f = true
  · rw [if_pos hz] at h
    exact finishZ_sim hr hz h
  · rw [if_neg hz, T.run_ofO] at h
    exact finish_sim hr h
omit hC hS in
theorem ConsOK.nil {Y : Option YS} {q : Nat} {S : Type} {H : Option (Hd S)} {P : Nat → S → Prop} : ConsOK Y q H P [] := fun j d h => by simp at h
theorem call_sim {fn : Func} {c : Code} (hfn : C.P.funcs[f]? = some fn) (hbody : fn.body = some c) (hl : LoopsOK C tab n f c) : FnOK C (n + 1) f (callS C tab f) := by
  intro args v hb h avs hv
  unfold callS at h
  rw [hfn] at h
  simp only [hbody] at h
  split at h
  · cases h
  rename_i hnd
  simp only [T.run_bind, Option.bind_eq_some_iff] at h
  obtain ⟨⟨e, σ⟩, h1, h2⟩ := h
  have hlog : σ.log = [] := by
    cases hg : σ.log with
    | nil => rfl
    | cons a l => simp only [hg] at h2; cases e <;> cases h2
  obtain ⟨τ, _, h3, -, h4⟩ := exec_sim hC hS hS.2.2 (H := (none : Option (Hd Unit))) (P := fun _ _ => True) (Lg := []) ConsOK.nil c hl (s := ()) (τ := { tmps := avs ++ List.replicate (fn.ntmps - avs.length) .und, h := [] }) h1 (by rw [hlog]; exact List.prefix_refl _) ⟨by rw [← VRL_length hv]; exact VRL_append hv (VRL_replicate _), rfl, fun i => by simp only [sget, hget, List.getElem?_nil]; trivial⟩ trivial
  unfold callA
  simp only [hfn, hbody, (by simpa using hnd : hasDef c = false), List.length_nil, h3]
  simp only [hlog] at h2
  cases e with
  | exit id => cases h2
  | normal =>
    obtain ⟨v', h', h5, h6, h7⟩ := finishT_sim h4 h2
    exact ⟨v', h', by simp only [h5, Option.map_some], h6, h7⟩
  | ret =>
    obtain ⟨v', h', h5, h6, h7⟩ := finishT_sim h4 h2
    exact ⟨v', h', by simp only [h5, Option.map_some], h6, h7⟩
  | pan t =>
    cases h2
    exact ⟨.pan t, [], by simp only [if_true], by simp only [VR], rfl, fun i => trivial⟩
omit hC hS in
def FnOKW (C : Cfg) (n : Nat) (f : FuncId) (F : List SV → SHeap → T (SV × SHeap)) : Prop := ∀ args h v hb, (F args h).run = some (v, hb) → ∀ avs h0, VRL args avs → HR h h0 → ∀ (S : Type) (H : Option (Hd S)) (s : S),
  ∃ v' h', callA C n S H f avs h0 s = some (v', h', s) ∧ VR v v' ∧ HR hb h'
theorem callW_sim {fn : Func} {c : Code} (hfn : C.P.funcs[f]? = some fn) (hbody : fn.body = some c) {args : List SV} {h : SHeap} (hl : LoopsOKK C tab n h.length f c) {v : SV} {hb : SHeap} (hr : (callSW C tab f args h).run = some (v, hb))
    {avs : List AV} {h0 : Heap} (hv : VRL args avs) (hh : HR h h0) (S : Type) (H : Option (Hd S)) (s : S) : ∃ v' h', callA C (n + 1) S H f avs h0 s = some (v', h', s) ∧ VR v v' ∧ HR hb h' := by
  unfold callSW at hr
  rw [hfn] at hr
  simp only [hbody] at hr
  split at hr
  · cases hr
  rename_i hnd
  simp only [T.run_bind, Option.bind_eq_some_iff] at hr
  obtain ⟨⟨e, σ⟩, h1, h2⟩ := hr
  have hlog : σ.log = [] := by
    cases hg : σ.log with
    | nil => rfl
    | cons a l => simp only [hg] at h2; cases e <;> cases h2
  obtain ⟨τ, s', h3, hs', h4⟩ := exec_sim hC hS hS.2.2 (H := H) (P := fun _ x => x = s) (Lg := []) ConsOK.nil c hl (s := s) (τ := { tmps := avs ++ List.replicate (fn.ntmps - avs.length) .und, h := h0 }) h1 (by rw [hlog]; exact List.prefix_refl _) ⟨by rw [← VRL_length hv]; exact VRL_append hv (VRL_replicate _), hh⟩ rfl
  subst hs'
  rw [hh.1] at h3
  unfold callA
  simp only [hfn, hbody, (by simpa using hnd : hasDef c = false), h3]
  simp only [hlog] at h2
  cases e with
  | exit id => cases h2
  | pan t => cases h2
  | normal =>
    simp only [T.run_ofO] at h2
    obtain ⟨v', h', h5, h6, h7⟩ := finish_sim h4 h2
    rw [hh.1] at h5
    exact ⟨v', h', by simp only [h5, Option.map_some], h6, h7⟩
  | ret =>
    simp only [T.run_ofO] at h2
    obtain ⟨v', h', h5, h6, h7⟩ := finish_sim h4 h2
    rw [hh.1] at h5
    exact ⟨v', h', by simp only [h5, Option.map_some], h6, h7⟩
end
abbrev SpL := List (FuncId × (List SV → T (SV × SHeap)))
abbrev LpL := List (Nat × (SSt → T (Ex × SSt)))
def spOf : SpL → FuncId → Option (List SV → T (SV × SHeap))
  | [], _ => none
  | p :: ps, f => if p.1 = f then some p.2 else spOf ps f
def lpOf : LpL → Nat → Option (SSt → T (Ex × SSt))
  | [], _ => none
  | p :: ps, k => if p.1 = k then some p.2 else lpOf ps k
abbrev SwL := List (FuncId × (List SV → SHeap → T (SV × SHeap)))
def swOf : SwL → FuncId → Option (List SV → SHeap → T (SV × SHeap))
  | [], _ => none
  | p :: ps, f => if p.1 = f then some p.2 else swOf ps f
def mkTab (sp : SpL) (lp : LpL) (sw : SwL := []) : Tab := { sp := spOf sp, lp := fun _ k => lpOf lp k, spw := swOf sw }
def AllOK (C : Cfg) (n : Nat) : SpL → Prop
  | [] => True
  | p :: ps => FnOK C n p.1 p.2 ∧ AllOK C n ps
def AllOKW (C : Cfg) (n : Nat) : SwL → Prop
  | [] => True
  | p :: ps => FnOKW C n p.1 p.2 ∧ AllOKW C n ps
theorem allOK_get {C : Cfg} {n : Nat} : ∀ {sp : SpL}, AllOK C n sp → ∀ f F, spOf sp f = some F → FnOK C n f F
  | [], _, f, F, h => by cases h
  | p :: ps, ho, f, F, h => by
    simp only [spOf] at h
    split at h
    · rename_i e
      cases h
      subst e
      exact ho.1
    · exact allOK_get ho.2 f F h
theorem allOKW_get {C : Cfg} {n : Nat} : ∀ {sw : SwL}, AllOKW C n sw → ∀ f F, swOf sw f = some F → FnOKW C n f F
  | [], _, f, F, h => by cases h
  | p :: ps, ho, f, F, h => by
    simp only [swOf] at h
    split at h
    · rename_i e
      cases h
      subst e
      exact ho.1
    · exact allOKW_get ho.2 f F h
theorem spOK_ofW {C : Cfg} {n : Nat} {sp : SpL} {lp : LpL} {sw : SwL} (h : AllOK C n sp) (hw : AllOKW C n sw) : SpOK C (mkTab sp lp sw) n :=
  ⟨fun f F hF => allOK_get h f F hF, ⟨fun f F hF => allOKW_get hw f F hF, fun f F hF => by cases hF⟩, fun Y h => by cases h⟩
theorem spOK_of {C : Cfg} {n : Nat} {sp : SpL} {lp : LpL} (h : AllOK C n sp) : SpOK C (mkTab sp lp) n := spOK_ofW h trivial
theorem FnOK.mono {C : Cfg} {n : Nat} {f : FuncId} {F F' : List SV → T (SV × SHeap)} (h : FnOK C n f F) (hF : ∀ args v hb, (F' args).run = some (v, hb) → (F args).run = some (v, hb)) : FnOK C n f F' :=
  fun args v hb hr => h args v hb (hF args v hb hr)
inductive SK where
  | any
  | und
  | k (k : K)
  | agg (cs : List SK)
  | tup (cs : List SK)
  | eptr (cs : List SK)
  | ptr (i s k j : Nat)
  | sl (i s : Nat)
  | fn (f : FuncId) (a c : List SK)
  | nilf
  | nilp
  | nils
  | emp (s : Nat)
  | yl
  | ifc (t : TypeId) (v : SK)
  | nili
  /-- a pointer to an element; the datum says which one -/
  | pel (i s j : Nat)
  /-- a call that panics -/
  | pan (t : TypeId)
  /-- a slice from an element on; the data say which one, and how many -/
  | sub (i s : Nat)
  /-- a map of one's own -/
  | mp (i : Nat)
inductive BK where
  | none
  | box (cs : List SK)
  | row (ks : List K)
  | junk
  | lst (s : Nat) (es : List (List SK))
  | map (ka : Bool) (kk : List K) (vk : K)
  /-- a map with these integers as keys -/
  | mlst (es : List ((IntKind × Int) × SK))
  /-- so many numbers, and further cells -/
  | arr (k : IntKind) (n : Nat) (tl : List SK)
def fitsK : K → SV → Option D
  | .int k, .int k' n => if k = k' then some (.i n) else none
  | .bool, .bool b => some (.b b)
  | .bool, .kb b => some (.b b)
  | .ro ks, .ro _ ks' l => if keqs ks ks' then some (.l l) else none
  | .ro _, .nils => some (.l [])
  | .ro ks, .emp s => if s = ks.length then some (.l []) else none
  | .opt ks, .opt ks' l => if keqs ks ks' then some (.l l) else none
  | .alt a, .alt a' c => if keqa a a' then some (.l [c]) else none
  | _, _ => none
mutual
def fitsV : SK → SV → Option (List D)
  | .any, v => match v with
    | .any => some []
    | _ => none
  | .und, v => match v with
    | .und => some []
    | _ => none
  | .k k, v => match fitsK k v with
    | some d => some [d]
    | none => none
  | .agg cs, v => match v with
    | .agg vs => fitsVs cs vs
    | _ => none
  | .tup cs, v => match v with
    | .tup vs => fitsVs cs vs
    | _ => none
  | .eptr cs, v => match v with
    | .eptr vs => fitsVs cs vs
    | _ => none
  | .ptr i s k j, v => match v with
    | .ptr i' s' k' j' => if i = i' ∧ s = s' ∧ k = k' ∧ j = j' then some [] else none
    | _ => none
  | .sl i s, v => match v with
    | .sl i' s' n => if i = i' ∧ s = s' then some [.i n] else none
    | _ => none
  | .fn f a c, v => match v with
    | .fn (.func f') a' c' => if f = f' then (match fitsVs a a', fitsVs c c' with
      | some x, some y => some (x ++ y)
      | _, _ => none) else none
    | _ => none
  | .nilf, v => match v with
    | .nilf => some []
    | _ => none
  | .nilp, v => match v with
    | .nilp => some []
    | _ => none
  | .emp s, v => match v with
    | .emp s' => if s = s' then some [] else none
    | _ => none
  | .nils, v => match v with
    | .nils => some []
    | _ => none
  | .yl, v => match v with
    | .yl => some []
    | _ => none
  | .nili, v => match v with
    | .nili => some []
    | _ => none
  | .pan t, v => match v with
    | .pan t' => if t = t' then some [] else none
    | _ => none
  | .sub i s, v => match v with
    | .sub i' s' lo n => if i = i' ∧ s = s' then some [.i lo, .i n] else none
    | _ => none
  | .mp i, v => match v with
    | .mp i' => if i = i' then some [] else none
    | _ => none
  | .ifc t c, v => match v with
    | .ifc t' x => if t = t' then fitsV c x else none
    | _ => none
  | .pel i s j, v => match v with
    | .ptr i' s' k' j' => if i = i' ∧ s = s' ∧ j = j' then some [.i k'] else none
    | _ => none
def fitsVs : List SK → List SV → Option (List D)
  | [], vs => match vs with
    | [] => some []
    | _ => none
  | c :: cs, vs => match vs with
    | [] => none
    | v :: vs => match fitsV c v, fitsVs cs vs with
      | some x, some y => some (x ++ y)
      | _, _ => none
end
mutual
/-- A value of a shape with data (and the data that are left). -/
def headV : SK → List D → SV × List D
  | .any, ds => (.any, ds)
  | .und, ds => (.und, ds)
  | .k k, ds => (dec k (ds.headD default), ds.tail)
  | .agg cs, ds => (.agg (headVs cs ds).1, (headVs cs ds).2)
  | .tup cs, ds => (.tup (headVs cs ds).1, (headVs cs ds).2)
  | .eptr cs, ds => (.eptr (headVs cs ds).1, (headVs cs ds).2)
  | .ptr i s k j, ds => (.ptr i s k j, ds)
  | .sl i s, ds => (.sl i s (ds.headD default).I.toNat, ds.tail)
  | .fn f a c, ds => (.fn (.func f) (headVs a ds).1 (headVs c (headVs a ds).2).1, (headVs c (headVs a ds).2).2)
  | .nilf, ds => (.nilf, ds)
  | .nilp, ds => (.nilp, ds)
  | .nils, ds => (.nils, ds)
  | .emp s, ds => (.emp s, ds)
  | .yl, ds => (.yl, ds)
  | .nili, ds => (.nili, ds)
  | .pan t, ds => (.pan t, ds)
  | .sub i s, ds => (.sub i s (ds.headD default).I.toNat (ds.tail.headD default).I.toNat, ds.tail.tail)
  | .mp i, ds => (.mp i, ds)
  | .ifc t c, ds => (.ifc t (headV c ds).1, (headV c ds).2)
  | .pel i s j, ds => (.ptr i s (ds.headD default).I.toNat j, ds.tail)
def headVs : List SK → List D → List SV × List D
  | [], ds => ([], ds)
  | c :: cs, ds => ((headV c ds).1 :: (headVs cs (headV c ds).2).1, (headVs cs (headV c ds).2).2)
end
def fitsLL : List (List SK) → List (List SV) → Option (List D)
  | [], [] => some []
  | c :: cs, v :: vs => match fitsVs c v, fitsLL cs vs with
    | some x, some y => some (x ++ y)
    | _, _ => none
  | _, _ => none
def headLL : List (List SK) → List D → List (List SV) × List D
  | [], ds => ([], ds)
  | c :: cs, ds => ((headVs c ds).1 :: (headLL cs (headVs c ds).2).1, (headLL cs (headVs c ds).2).2)
def fitsML : List ((IntKind × Int) × SK) → List (SV × SV) → Option (List D)
  | [], [] => some []
  | c :: cs, (.int k n, v) :: vs => if c.1.1 = k ∧ c.1.2 = n then (match fitsV c.2 v, fitsML cs vs with
    | some x, some y => some (x ++ y)
    | _, _ => none) else none
  | _, _ => none
def headML : List ((IntKind × Int) × SK) → List D → List (SV × SV) × List D
  | [], ds => ([], ds)
  | c :: cs, ds => ((.int c.1.1 c.1.2, (headV c.2 ds).1) :: (headML cs (headV c.2 ds).2).1, (headML cs (headV c.2 ds).2).2)
def fitsB : BK → Option SB → Option (List D)
  | .none, none => some []
  | .box cs, some (.box vs) => fitsVs cs vs
  | .row ks, some (.row ks' l) => if keqs ks ks' then some [.l l] else none
  | .junk, some .junk => some []
  | .lst s es, some (.lst s' vs) => if s = s' then fitsLL es vs else none
  | .map ka kk vk, some (.map ka' kk' vk' l) => if ka = ka' ∧ keqs (vk :: kk) (vk' :: kk') = true then some [.l l] else none
  | .mlst es, some (.mlst vs) => fitsML es vs
  | .arr k n tl, some (.arr k' n' l vs) => if k = k' ∧ n = n' then (fitsVs tl vs).map (D.l l :: ·) else none
  | _, _ => none
def fitsH : List BK → SHeap → Option (List D)
  | [], h => match h with
    | [] => some []
    | _ => none
  | b :: bs, h => match h with
    | [] => none
    | o :: os => match fitsB b o, fitsH bs os with
      | some x, some y => some (x ++ y)
      | _, _ => none
def headB : BK → List D → Option SB × List D
  | .none, ds => (none, ds)
  | .box cs, ds => (some (.box (headVs cs ds).1), (headVs cs ds).2)
  | .row ks, ds => (some (.row ks (ds.headD default).L), ds.tail)
  | .junk, ds => (some .junk, ds)
  | .lst s es, ds => (some (.lst s (headLL es ds).1), (headLL es ds).2)
  | .map ka kk vk, ds => (some (.map ka kk vk (ds.headD default).L), ds.tail)
  | .mlst es, ds => (some (.mlst (headML es ds).1), (headML es ds).2)
  | .arr k n tl, ds => (some (.arr k n (ds.headD default).L (headVs tl ds.tail).1), (headVs tl ds.tail).2)
def headH : List BK → List D → SHeap × List D
  | [], ds => ([], ds)
  | b :: bs, ds => ((headB b ds).1 :: (headH bs (headB b ds).2).1, (headH bs (headB b ds).2).2)
theorem fitsK_sim {k : K} {v : SV} {d : D} {a : AV} (h : fitsK k v = some d) (hv : VR v a) : VR (dec k d) a := by
  unfold fitsK at h
  split at h
  · split at h
    · rename_i e; subst e; cases h; simpa only [dec, D.I, VR] using hv
    · cases h
  · cases h; simpa only [dec, D.B, VR] using hv
  · cases h; simpa only [dec, D.B, VR] using hv
  · split at h
    · rename_i e
      cases h
      have := keqs_eq _ _ e
      subst this
      simp only [dec, D.L, VR] at hv ⊢
      rcases hv with hv | ⟨kd, c0', es, h1, _, h2⟩
      · exact .inl hv
      · exact .inr ⟨kd, c0', es, h1, fun h => (by cases h), h2⟩
    · cases h
  · cases h
    simp only [dec, D.L, VR] at hv ⊢
    exact .inl ⟨hv, by trivial⟩
  · split at h
    · rename_i e
      subst e
      cases h
      simp only [dec, D.L, VR] at hv ⊢
      rcases hv with rfl | rfl
      · exact .inl ⟨by trivial, by trivial⟩
      · exact .inr ⟨_, _, [], rfl, fun h => (by cases h), EncE_nil⟩
    · cases h
  · split at h
    · rename_i e
      cases h
      have := keqs_eq _ _ e
      subst this
      exact hv
    · cases h
  · split at h
    · rename_i e
      cases h
      have := keqa_eq _ _ e
      subst this
      exact hv
    · cases h
  · cases h
mutual
theorem fitsV_sim : ∀ (sk : SK) {v : SV} {ds : List D} {a : AV} (r : List D), fitsV sk v = some ds → VR v a → VR (headV sk (ds ++ r)).1 a ∧ (headV sk (ds ++ r)).2 = r
  | .any, v, ds, a, r, h, hv => by
    simp only [fitsV] at h
    split at h
    · cases h; simp only [headV, List.nil_append]; exact ⟨hv, by trivial⟩
    · cases h
  | .und, v, ds, a, r, h, hv => by
    simp only [fitsV] at h
    split at h
    · cases h; simp only [headV, List.nil_append]; exact ⟨hv, by trivial⟩
    · cases h
  | .nilf, v, ds, a, r, h, hv => by
    simp only [fitsV] at h
    split at h
    · cases h; simp only [headV, List.nil_append]; exact ⟨hv, by trivial⟩
    · cases h
  | .nilp, v, ds, a, r, h, hv => by
    simp only [fitsV] at h
    split at h
    · cases h; simp only [headV, List.nil_append]; exact ⟨hv, by trivial⟩
    · cases h
  | .emp s, v, ds, a, r, h, hv => by
    simp only [fitsV] at h
    split at h
    · split at h
      · rename_i e
        subst e
        cases h; simp only [headV, List.nil_append]; exact ⟨hv, by trivial⟩
      · cases h
    · cases h
  | .nils, v, ds, a, r, h, hv => by
    simp only [fitsV] at h
    split at h
    · cases h; simp only [headV, List.nil_append]; exact ⟨hv, by trivial⟩
    · cases h
  | .k k, v, ds, a, r, h, hv => by
    simp only [fitsV] at h
    split at h
    · rename_i d hd
      cases h
      simp only [headV, List.cons_append, List.nil_append, List.headD_cons, List.tail_cons]
      exact ⟨fitsK_sim hd hv, by trivial⟩
    · cases h
  | .agg cs, v, ds, a, r, h, hv => by
    simp only [fitsV] at h
    split at h
    · simp only [VR] at hv
      obtain ⟨us, rfl, hv⟩ := hv
      obtain ⟨h1, h2⟩ := fitsVs_sim cs r h hv
      simp only [headV, VR]
      exact ⟨⟨_, rfl, h1⟩, h2⟩
    · cases h
  | .tup cs, v, ds, a, r, h, hv => by
    simp only [fitsV] at h
    split at h
    · simp only [VR] at hv
      obtain ⟨us, rfl, hv⟩ := hv
      obtain ⟨h1, h2⟩ := fitsVs_sim cs r h hv
      simp only [headV, VR]
      exact ⟨⟨_, rfl, h1⟩, h2⟩
    · cases h
  | .eptr cs, v, ds, a, r, h, hv => by
    simp only [fitsV] at h
    split at h
    · simp only [VR] at hv
      obtain ⟨kd, us, rfl, hv⟩ := hv
      obtain ⟨h1, h2⟩ := fitsVs_sim cs r h hv
      simp only [headV, VR]
      exact ⟨⟨_, _, rfl, h1⟩, h2⟩
    · cases h
  | .ptr i s k j, v, ds, a, r, h, hv => by
    simp only [fitsV] at h
    split at h
    · split at h
      · rename_i e
        obtain ⟨rfl, rfl, rfl, rfl⟩ := e
        cases h
        simp only [headV, List.nil_append]
        exact ⟨hv, by trivial⟩
      · cases h
    · cases h
  | .sl i s, v, ds, a, r, h, hv => by
    simp only [fitsV] at h
    split at h
    · split at h
      · rename_i e
        obtain ⟨rfl, rfl⟩ := e
        cases h
        simp only [headV, List.cons_append, List.nil_append, List.headD_cons, List.tail_cons, D.I, Int.toNat_natCast]
        exact ⟨hv, by trivial⟩
      · cases h
    · cases h
  | .sub i s, v, ds, a, r, h, hv => by
    simp only [fitsV] at h
    split at h
    · split at h
      · rename_i e
        obtain ⟨rfl, rfl⟩ := e
        cases h
        simp only [headV, List.cons_append, List.nil_append, List.headD_cons, List.tail_cons, D.I, Int.toNat_natCast]
        exact ⟨hv, by trivial⟩
      · cases h
    · cases h
  | .fn f x y, v, ds, a, r, h, hv => by
    simp only [fitsV] at h
    split at h
    · split at h
      · rename_i e
        subst e
        split at h
        · rename_i d1 d2 h1 h2
          cases h
          simp only [VR] at hv
          obtain ⟨us, ws, rfl, hv1, hv2⟩ := hv
          obtain ⟨h3, h4⟩ := fitsVs_sim x (d2 ++ r) h1 hv1
          obtain ⟨h5, h6⟩ := fitsVs_sim y r h2 hv2
          simp only [headV, VR, List.append_assoc, h4]
          exact ⟨⟨_, _, rfl, h3, h5⟩, h6⟩
        · cases h
      · cases h
    · cases h
  | .pel i s j, v, ds, a, r, h, hv => by
    simp only [fitsV] at h
    split at h
    · split at h
      · rename_i e
        obtain ⟨rfl, rfl, rfl⟩ := e
        cases h
        simp only [headV, List.cons_append, List.nil_append, List.headD_cons, List.tail_cons, D.I, Int.toNat_natCast]
        exact ⟨hv, by trivial⟩
      · cases h
    · cases h
  | .yl, v, ds, a, r, h, hv => by
    simp only [fitsV] at h
    split at h
    · cases h
      simp only [headV, List.nil_append]
      exact ⟨hv, by trivial⟩
    · cases h
  | .nili, v, ds, a, r, h, hv => by
    simp only [fitsV] at h
    split at h
    · cases h
      simp only [headV, List.nil_append]
      exact ⟨hv, by trivial⟩
    · cases h
  | .mp i, v, ds, a, r, h, hv => by
    simp only [fitsV] at h
    split at h
    · split at h
      · rename_i e
        subst e
        cases h
        simp only [headV, List.nil_append]
        exact ⟨hv, by trivial⟩
      · cases h
    · cases h
  | .pan t, v, ds, a, r, h, hv => by
    simp only [fitsV] at h
    split at h
    · split at h
      · rename_i e
        subst e
        cases h
        simp only [headV, List.nil_append]
        exact ⟨hv, by trivial⟩
      · cases h
    · cases h
  | .ifc t c, v, ds, a, r, h, hv => by
    simp only [fitsV] at h
    split at h
    · split at h
      · rename_i e
        subst e
        simp only [VR] at hv
        obtain ⟨u, rfl, hv⟩ := hv
        obtain ⟨h1, h2⟩ := fitsV_sim c r h hv
        simp only [headV, VR]
        exact ⟨⟨_, rfl, h1⟩, h2⟩
      · cases h
    · cases h
theorem fitsVs_sim : ∀ (cs : List SK) {vs : List SV} {ds : List D} {as : List AV} (r : List D), fitsVs cs vs = some ds → VRL vs as → VRL (headVs cs (ds ++ r)).1 as ∧ (headVs cs (ds ++ r)).2 = r
  | [], vs, ds, as, r, h, hv => by
    simp only [fitsVs] at h
    split at h
    · cases h; simp only [headVs, List.nil_append]; exact ⟨hv, by trivial⟩
    · cases h
  | c :: cs, vs, ds, as, r, h, hv => by
    simp only [fitsVs] at h
    split at h
    · cases h
    · split at h
      · rename_i d1 d2 h1 h2
        cases h
        simp only [VRL] at hv
        obtain ⟨u, us, rfl, hv1, hv2⟩ := hv
        obtain ⟨h3, h4⟩ := fitsV_sim c (d2 ++ r) h1 hv1
        obtain ⟨h5, h6⟩ := fitsVs_sim cs r h2 hv2
        simp only [headVs, List.append_assoc, h4]
        exact ⟨VRL_cons h3 h5, h6⟩
      · cases h
end
theorem fitsLL_sim : ∀ (cs : List (List SK)) {vs : List (List SV)} {ds : List D} {as : List (List AV)} (r : List D), fitsLL cs vs = some ds → VRLL vs as → VRLL (headLL cs (ds ++ r)).1 as ∧ (headLL cs (ds ++ r)).2 = r
  | [], [], ds, as, r, h, hv => by
    simp only [fitsLL, Option.some.injEq] at h
    subst h
    exact ⟨hv, rfl⟩
  | c :: cs, v :: vs, ds, [], r, h, hv => by have := hv.1; simp at this
  | c :: cs, v :: vs, ds, a :: as, r, h, hv => by
    simp only [fitsLL] at h
    split at h
    · rename_i d1 d2 h1 h2
      cases h
      obtain ⟨t1, t2⟩ := hv.tail
      obtain ⟨h3, h4⟩ := fitsVs_sim c (d2 ++ r) h1 t1
      obtain ⟨h5, h6⟩ := fitsLL_sim cs r h2 t2
      simp only [headLL, List.append_assoc, h4]
      refine ⟨⟨by simp [h5.1], fun i c v e1 e2 => ?_⟩, h6⟩
      cases i with
      | zero => simp at e1 e2; subst e1; subst e2; exact h3
      | succ i => exact h5.2 i c v (by simpa using e1) (by simpa using e2)
    · cases h
  | [], _ :: _, _, _, _, h, _ => by simp [fitsLL] at h
  | _ :: _, [], _, _, _, h, _ => by simp [fitsLL] at h
theorem fitsML_sim : ∀ (cs : List ((IntKind × Int) × SK)) {vs : List (SV × SV)} {ds : List D} {kvs : List (AV × AV)} (r : List D), fitsML cs vs = some ds → vs.length = kvs.length → (∀ (i : Nat) e p, vs[i]? = some e → kvs[i]? = some p → VR e.1 p.1 ∧ VR e.2 p.2) →
    ((headML cs (ds ++ r)).1.length = kvs.length ∧ ∀ (i : Nat) e p, (headML cs (ds ++ r)).1[i]? = some e → kvs[i]? = some p → VR e.1 p.1 ∧ VR e.2 p.2) ∧ (headML cs (ds ++ r)).2 = r
  | [], vs, ds, kvs, r, h, hl, hv => by
    cases vs with
    | cons v vs => simp [fitsML] at h
    | nil =>
      simp only [fitsML, Option.some.injEq] at h
      subst h
      exact ⟨⟨by simpa [headML] using hl, fun i e p he => by simp [headML] at he⟩, rfl⟩
  | c :: cs, vs, ds, kvs, r, h, hl, hv => by
    cases vs with
    | nil => simp [fitsML] at h
    | cons v vs =>
      obtain ⟨k, v⟩ := v
      cases k <;> try (simp [fitsML] at h; done)
      rename_i k n
      simp only [fitsML] at h
      split at h
      case isFalse => cases h
      rename_i hc
      split at h
      · rename_i x y hx hy
        cases h
        cases kvs with
        | nil => simp at hl
        | cons p kvs =>
          obtain ⟨h1, h2⟩ := hv 0 _ p rfl rfl
          obtain ⟨h3, h4⟩ := fitsV_sim c.2 (y ++ r) hx h2
          obtain ⟨⟨h5, h6⟩, h7⟩ := fitsML_sim cs r hy (kvs := kvs) (by simpa using hl) fun i e p h8 h9 => hv (i + 1) e p (by simpa using h8) (by simpa using h9)
          simp only [headML, List.append_assoc, h4]
          refine ⟨⟨by simp [h5], fun i e q he hq => ?_⟩, h7⟩
          cases i with
          | zero =>
            simp only [List.getElem?_cons_zero, Option.some.injEq] at he hq
            subst he; subst hq
            exact ⟨by rw [hc.1, hc.2]; exact h1, h3⟩
          | succ i => exact h6 i e q (by simpa using he) (by simpa using hq)
      · cases h
theorem fitsB_sim {b : BK} {o : Option SB} {O : Option Blk} {ds : List D} (r : List D) (h : fitsB b o = some ds) (ho : OR o O) : OR (headB b (ds ++ r)).1 O ∧ (headB b (ds ++ r)).2 = r := by
  unfold fitsB at h
  split at h
  · cases h; exact ⟨ho, rfl⟩
  · rename_i cs vs
    obtain ⟨B, rfl, hr⟩ := OR_some ho
    cases B with
    | map kvs => exact hr.elim
    | row s es fl =>
      simp only [BlkR] at hr
      obtain ⟨us, rfl, rfl, hv, hno⟩ := hr
      obtain ⟨h1, h2⟩ := fitsVs_sim cs r h hv
      simp only [headB, OR, BlkR]
      exact ⟨⟨us, rfl, by rw [VRL_length hv, VRL_length h1], h1, hno⟩, h2⟩
  · split at h
    · rename_i e
      cases h
      have := keqs_eq _ _ e
      subst this
      exact ⟨ho, rfl⟩
    · cases h
  · cases h; exact ⟨ho, rfl⟩
  · split at h
    · rename_i s vs' _ vs e
      subst e
      obtain ⟨B, rfl, hr⟩ := OR_some ho
      cases B with
      | map kvs => exact hr.elim
      | row s es fl =>
        simp only [BlkR] at hr
        obtain ⟨rfl, hv, hl, hno⟩ := hr
        obtain ⟨h1, h2⟩ := fitsLL_sim _ r h hv
        simp only [headB, OR, BlkR]
        exact ⟨⟨by trivial, h1, hl, hno⟩, h2⟩
    · cases h
  · split at h
    · rename_i e
      cases h
      obtain ⟨rfl, e⟩ := e
      have := keqs_eq _ _ e
      cases this
      exact ⟨ho, rfl⟩
    · cases h
  · rename_i es vs
    obtain ⟨B, rfl, hr⟩ := OR_some ho
    obtain ⟨kvs, rfl⟩ := BlkR_mlst hr
    simp only [BlkR] at hr
    obtain ⟨h1, h2⟩ := fitsML_sim es r h hr.1 hr.2
    simp only [headB, OR, BlkR]
    exact ⟨h1, h2⟩
  · rename_i k n tl k' n' l vs
    split at h
    · rename_i e
      obtain ⟨rfl, rfl⟩ := e
      rw [Option.map_eq_some_iff] at h
      obtain ⟨d, hd, rfl⟩ := h
      obtain ⟨B, rfl, hr⟩ := OR_some ho
      obtain ⟨hl', hr⟩ := arr_box hr
      obtain ⟨s', es, fl, rfl⟩ := BlkR_row hr
      simp only [BlkR] at hr
      obtain ⟨us, rfl, rfl, hv, hno⟩ := hr
      have hv1 := VRL_take n hv
      have hv2 := VRL_drop n hv
      rw [List.take_left' length_arrC] at hv1
      rw [List.drop_left' length_arrC] at hv2
      obtain ⟨h1, h2⟩ := fitsVs_sim tl r hd hv2
      simp only [headB, List.cons_append, List.headD_cons, List.tail_cons, D.L]
      have h3 := VRL_append hv1 h1
      rw [List.take_append_drop] at h3
      exact ⟨⟨hl', us, rfl, by rw [VRL_length hv, VRL_length h3], h3, hno⟩, h2⟩
    · cases h
  · cases h
theorem fitsH_sim : ∀ (bs : List BK) {sh : SHeap} {h : Heap} {ds : List D} (r : List D), fitsH bs sh = some ds → HR sh h → HR (headH bs (ds ++ r)).1 h ∧ (headH bs (ds ++ r)).2 = r
  | [], sh, h, ds, r, hf, hh => by
    simp only [fitsH] at hf
    split at hf
    · cases hf; simp only [headH, List.nil_append]; exact ⟨hh, by trivial⟩
    · cases hf
  | b :: bs, sh, h, ds, r, hf, hh => by
    simp only [fitsH] at hf
    split at hf
    · cases hf
    · rename_i o os
      split at hf
      · rename_i d1 d2 h1 h2
        cases hf
        cases h with
        | nil => have := hh.1; simp at this
        | cons O Os =>
          have h0 : OR o O := by simpa [sget, hget] using hh.2 0
          have hrest : HR os Os := ⟨by simpa using hh.1, fun i => by simpa [sget, hget] using hh.2 (i + 1)⟩
          obtain ⟨h3, h4⟩ := fitsB_sim (d2 ++ r) h1 h0
          obtain ⟨h5, h6⟩ := fitsH_sim bs r h2 hrest
          simp only [headH, List.append_assoc, h4]
          refine ⟨⟨by simp [h5.1], fun i => ?_⟩, h6⟩
          cases i with
          | zero => simpa [sget, hget] using h3
          | succ i => simpa [sget, hget] using h5.2 i
      · cases hf
structure Shp where
  tmps : List SK
  h : List BK
def fitsS (s : Shp) (σ : SSt) : Option (List D) := match fitsVs s.tmps σ.tmps, fitsH s.h σ.h with
  | some x, some y => some (x ++ y)
  | _, _ => none
def headS (s : Shp) (ds : List D) : SSt := { tmps := (headVs s.tmps ds).1, h := (headH s.h (headVs s.tmps ds).2).1 }
theorem fitsS_sim {s : Shp} {σ : SSt} {ds : List D} {τ : St} (h : fitsS s σ = some ds) (hr : SSR σ τ) : SSR (headS s ds) τ := by
  unfold fitsS at h
  split at h
  · rename_i x y h1 h2
    cases h
    obtain ⟨h3, h4⟩ := fitsVs_sim s.tmps y h1 hr.1
    obtain ⟨h5, h6⟩ := fitsH_sim s.h [] h2 hr.2
    unfold headS
    rw [h4]
    rw [List.append_nil] at h5
    exact ⟨h3, h5⟩
  · cases h
def fitsFrom : List Shp → Nat → SSt → Option (List D)
  | [], _, _ => none
  | s :: ss, j, σ => match fitsS s σ with
    | some ds => some (.i j :: ds)
    | none => fitsFrom ss (j + 1) σ
def fitsA (ss : List Shp) (σ : SSt) : Option (List D) := match ss with
  | [s] => fitsS s σ
  | ss => fitsFrom ss 0 σ
def headA (ss : List Shp) (ds : List D) : SSt := match ss with
  | [s] => headS s ds
  | ss => headS (ss.getD (ds.headD default).I.toNat ⟨[], []⟩) ds.tail
theorem fitsFrom_sim : ∀ (ss : List Shp) (j : Nat) {σ : SSt} {ds : List D} {τ : St}, fitsFrom ss j σ = some ds → SSR σ τ → ∃ i ds', ds = .i ((j + i : Nat) : Int) :: ds' ∧ SSR (headS (ss.getD i ⟨[], []⟩) ds') τ
  | [], j, σ, ds, τ, h, _ => by cases h
  | s :: ss, j, σ, ds, τ, h, hr => by
    simp only [fitsFrom] at h
    split at h
    · rename_i ds' h'
      cases h
      exact ⟨0, ds', rfl, by simpa using fitsS_sim h' hr⟩
    · obtain ⟨i, ds', h1, h2⟩ := fitsFrom_sim ss (j + 1) h hr
      exact ⟨i + 1, ds', by rw [h1]; congr 2; omega, by simpa using h2⟩
theorem fitsA_sim {ss : List Shp} {σ : SSt} {ds : List D} {τ : St} (h : fitsA ss σ = some ds) (hr : SSR σ τ) : SSR (headA ss ds) τ := by
  unfold fitsA at h
  unfold headA
  split at h
  · exact fitsS_sim h hr
  · rename_i ss' hne
    obtain ⟨i, ds', rfl, h2⟩ := fitsFrom_sim ss 0 h hr
    simpa [D.I] using h2
def slots : Nat → Nat → List (Nat × SK) → List SK
  | 0, _, _ => []
  | n + 1, i, l => (match l.find? (fun p => p.1 == i) with
    | some p => p.2
    | none => .any) :: slots n (i + 1) l
structure Sig where
  args : List SK
  res : List (SK × List BK)
def fitsR1 (s : SK × List BK) (r : SV × SHeap) : Option (List D) := match fitsV s.1 r.1, fitsH s.2 r.2 with
  | some x, some y => some (x ++ y)
  | _, _ => none
def headR1 (s : SK × List BK) (ds : List D) : SV × SHeap := ((headV s.1 ds).1, (headH s.2 (headV s.1 ds).2).1)
def fitsRF : List (SK × List BK) → Nat → SV × SHeap → Option (List D)
  | [], _, _ => none
  | s :: ss, j, r => match fitsR1 s r with
    | some ds => some (.i j :: ds)
    | none => fitsRF ss (j + 1) r
def fitsR (ss : List (SK × List BK)) (r : SV × SHeap) : Option (List D) := match ss with
  | [s] => fitsR1 s r
  | ss => fitsRF ss 0 r
def headR (ss : List (SK × List BK)) (ds : List D) : SV × SHeap := match ss with
  | [s] => headR1 s ds
  | ss => headR1 (ss.getD (ds.headD default).I.toNat (.und, [])) ds.tail
theorem fitsR1_sim {s : SK × List BK} {r : SV × SHeap} {ds : List D} {v : AV} {h : Heap} (hf : fitsR1 s r = some ds) (h1 : VR r.1 v) (h2 : HR r.2 h) : VR (headR1 s ds).1 v ∧ HR (headR1 s ds).2 h := by
  unfold fitsR1 at hf
  split at hf
  · rename_i x y e1 e2
    cases hf
    obtain ⟨h6, h7⟩ := fitsV_sim s.1 y e1 h1
    obtain ⟨h8, h9⟩ := fitsH_sim s.2 [] e2 h2
    rw [List.append_nil] at h8
    unfold headR1
    rw [h7]
    exact ⟨h6, h8⟩
  · cases hf
theorem fitsRF_sim : ∀ (ss : List (SK × List BK)) (j : Nat) {r : SV × SHeap} {ds : List D} {v : AV} {h : Heap}, fitsRF ss j r = some ds → VR r.1 v → HR r.2 h →
    ∃ i ds', ds = .i ((j + i : Nat) : Int) :: ds' ∧ VR (headR1 (ss.getD i (.und, [])) ds').1 v ∧ HR (headR1 (ss.getD i (.und, [])) ds').2 h
  | [], j, r, ds, v, h, hf, _, _ => by cases hf
  | s :: ss, j, r, ds, v, h, hf, h1, h2 => by
    simp only [fitsRF] at hf
    split at hf
    · rename_i ds' h'
      cases hf
      exact ⟨0, ds', rfl, by simpa using fitsR1_sim h' h1 h2⟩
    · obtain ⟨i, ds', e, h3⟩ := fitsRF_sim ss (j + 1) hf h1 h2
      exact ⟨i + 1, ds', by rw [e]; congr 2; omega, by simpa using h3⟩
theorem fitsR_sim {ss : List (SK × List BK)} {r : SV × SHeap} {ds : List D} {v : AV} {h : Heap} (hf : fitsR ss r = some ds) (h1 : VR r.1 v) (h2 : HR r.2 h) : VR (headR ss ds).1 v ∧ HR (headR ss ds).2 h := by
  unfold fitsR at hf
  unfold headR
  split at hf
  · exact fitsR1_sim hf h1 h2
  · rename_i ss' hne
    obtain ⟨i, ds', rfl, h3⟩ := fitsRF_sim ss 0 hf h1 h2
    simpa [D.I] using h3
def fnT (C : Cfg) (tab : Tab) (f : FuncId) (s : Sig) (ds : List D) : T (List D) := (callS C tab f (headVs s.args ds).1).bind fun r => T.ofO (fitsR s.res r)
def mkF (s : Sig) (G : List D → T (List D)) : List SV → T (SV × SHeap) := fun args => match fitsVs s.args args with
  | some ds => (G ds).map (headR s.res)
  | none => .fail
theorem fn_ok {C : Cfg} (hC : ∀ t Y, C.ty t = some Y → tyOf C.P t = some Y) {tab : Tab} {n : Nat} (hS : SpOK C tab n) {f : FuncId} {fn : Func} {c : Code} (hfn : C.P.funcs[f]? = some fn) (hbody : fn.body = some c) (hl : LoopsOK C tab n f c)
    {s : Sig} {G : List D → T (List D)} (hG : ∀ ds r, (G ds).run = some r → (fnT C tab f s ds).run = some r) : FnOK C (n + 1) f (mkF s G) := by
  intro args v hb h avs hv
  unfold mkF at h
  split at h
  · rename_i ds hds
    rw [T.run_map, Option.map_eq_some_iff] at h
    obtain ⟨r, hr, he⟩ := h
    have hf := hG ds r hr
    unfold fnT at hf
    rw [T.run_bind, Option.bind_eq_some_iff] at hf
    obtain ⟨⟨v0, h0⟩, hc, hfr⟩ := hf
    rw [T.run_ofO] at hfr
    obtain ⟨h1, h2⟩ := fitsVs_sim s.args [] hds hv
    rw [List.append_nil] at h1
    obtain ⟨v', h', h3, h4, h5⟩ := call_sim hC hS hfn hbody hl _ _ _ hc avs h1
    refine ⟨v', h', h3, ?_⟩
    have := fitsR_sim hfr h4 h5
    rw [he] at this
    exact this
  · cases h
structure SigW where
  args : List SK
  hin : List BK
  res : List (SK × List BK)
def fnTW (C : Cfg) (tab : Tab) (f : FuncId) (s : SigW) (ds : List D) : T (List D) := (callSW C tab f (headVs s.args ds).1 (headH s.hin (headVs s.args ds).2).1).bind fun r => T.ofO (fitsR s.res r)
def mkFW (s : SigW) (G : List D → T (List D)) : List SV → SHeap → T (SV × SHeap) := fun args h => match fitsVs s.args args, fitsH s.hin h with
  | some x, some y => (G (x ++ y)).map (headR s.res)
  | _, _ => .fail
theorem headH_length : ∀ (bs : List BK) (ds : List D), (headH bs ds).1.length = bs.length
  | [], _ => rfl
  | b :: bs, ds => by simp only [headH, List.length_cons, headH_length bs]
theorem fn_okW {C : Cfg} (hC : ∀ t Y, C.ty t = some Y → tyOf C.P t = some Y) {tab : Tab} {n : Nat} (hS : SpOK C tab n) {f : FuncId} {fn : Func} {c : Code} (hfn : C.P.funcs[f]? = some fn) (hbody : fn.body = some c)
    {s : SigW} (hl : LoopsOKK C tab n s.hin.length f c) {G : List D → T (List D)} (hG : ∀ ds r, (G ds).run = some r → (fnTW C tab f s ds).run = some r) : FnOKW C (n + 1) f (mkFW s G) := by
  intro args h v hb hr avs h0 hv hh S H s0
  unfold mkFW at hr
  split at hr
  · rename_i x y hx hy
    rw [T.run_map, Option.map_eq_some_iff] at hr
    obtain ⟨r, hr, he⟩ := hr
    have hf := hG _ r hr
    unfold fnTW at hf
    rw [T.run_bind, Option.bind_eq_some_iff] at hf
    obtain ⟨⟨v0, hb0⟩, hc, hfr⟩ := hf
    rw [T.run_ofO] at hfr
    obtain ⟨h1, h2⟩ := fitsVs_sim s.args y hx hv
    obtain ⟨h3, h4⟩ := fitsH_sim s.hin [] hy hh
    rw [List.append_nil] at h3
    rw [← h2] at h3
    obtain ⟨v', h', h5, h6, h7⟩ := callW_sim hC hS hfn hbody (by rw [headH_length]; exact hl) hc h1 h3 S H s0
    refine ⟨v', h', h5, ?_⟩
    have := fitsR_sim hfr h6 h7
    rw [he] at this
    exact this
  · cases hr
structure LSig where
  live : List Nat
  head : List Shp
  exits : List (Ex × List Nat × List Shp)
def exq : Ex → Ex → Bool
  | .normal, .normal => true
  | .exit i, .exit j => i == j
  | .ret, .ret => true
  | .pan t, .pan u => t == u
  | _, _ => false
theorem exq_eq {a b : Ex} (h : exq a b = true) : a = b := by cases a <;> cases b <;> simp_all [exq]
def exitOf : List (Ex × List Nat × List Shp) → Ex → Option (List Nat × List Shp)
  | [], _ => none
  | p :: ps, e => if exq p.1 e then some p.2 else exitOf ps e
inductive Rd where
  | again (ds : List D)
  | out (e : Ex) (ds : List D)
def withLog (σ : SSt) (l : List (List D)) : SSt := { σ with log := l }
def fitsL (y : Bool) (ss : List Shp) (σ : SSt) : Option (List D) := match y with
  | false => (match σ.log with
    | [] => fitsA ss σ
    | _ => none)
  | true => (fitsA ss σ).map (.l σ.log :: ·)
def headL (y : Bool) (ss : List Shp) (ds : List D) : SSt := match y with
  | false => headA ss ds
  | true => withLog (headA ss ds.tail) (ds.headD default).L
theorem headA_log (ss : List Shp) (ds : List D) : (headA ss ds).log = [] := by unfold headA; split <;> rfl
theorem fitsL_sim {y : Bool} {ss : List Shp} {σ : SSt} {ds : List D} {τ : St} (h : fitsL y ss σ = some ds) (hr : SSR σ τ) : SSR (headL y ss ds) τ ∧ (headL y ss ds).log = σ.log := by
  unfold fitsL at h
  unfold headL
  cases y with
  | false =>
    simp only at h ⊢
    split at h
    · rename_i hl
      exact ⟨fitsA_sim h hr, by rw [hl]; exact headA_log _ _⟩
    · cases h
  | true =>
    simp only [Option.map_eq_some_iff] at h
    obtain ⟨ds', h1, rfl⟩ := h
    exact ⟨fitsA_sim h1 hr, rfl⟩
def roundTG (y : Bool) (C : Cfg) (tab : Tab) (f : FuncId) (b : Code) (k : Nat) (s : LSig) (ds : List D) : T Rd := (execS C tab f b (headL y s.head ds)).bind fun r => match r.1 with
  | .normal => T.ofO ((fitsL y s.head (normS k s.live r.2)).map .again)
  | e => match exitOf s.exits e with
    | some x => T.ofO ((fitsL y x.2 (normS k x.1 r.2)).map (.out e))
    | none => .fail
abbrev roundTK (C : Cfg) (tab : Tab) (f : FuncId) (b : Code) (k : Nat) (s : LSig) (ds : List D) : T Rd := roundTG false C tab f b k s ds
abbrev roundT (C : Cfg) (tab : Tab) (f : FuncId) (b : Code) (s : LSig) (ds : List D) : T Rd := roundTK C tab f b 0 s ds
def mkLG (y : Bool) (k : Nat) (s : LSig) (G : List D → T (Ex × List D)) : SSt → T (Ex × SSt) := fun σ => match fitsL y s.head (normS k s.live σ) with
  | some ds => (G ds).bind fun r => match exitOf s.exits r.1 with
    | some x => .leaf (r.1, headL y x.2 r.2)
    | none => .fail
  | none => .fail
abbrev mkLK (k : Nat) (s : LSig) (G : List D → T (Ex × List D)) : SSt → T (Ex × SSt) := mkLG false k s G
abbrev mkL (s : LSig) (G : List D → T (Ex × List D)) : SSt → T (Ex × SSt) := mkLK 0 s G
def LiveOK (C : Cfg) (f : FuncId) (b : Code) (s : LSig) : Prop := C.ann f (keyOf b) = some s.live ∧ ∀ p ∈ s.exits, match p.1 with
  | .normal => False
  | .exit id => C.annX f (keyOf b) (some id) = some p.2.1
  | .ret => C.annX f (keyOf b) none = some p.2.1
  | .pan _ => C.annX f (keyOf b) (some panId) = some p.2.1
theorem exitOf_mem {l : List (Ex × List Nat × List Shp)} {e : Ex} {x : List Nat × List Shp} (h : exitOf l e = some x) : (e, x) ∈ l := by
  induction l with
  | nil => cases h
  | cons p ps ih =>
    simp only [exitOf] at h
    split at h
    · rename_i he
      cases h
      have := exq_eq he
      subst this
      exact List.mem_cons_self
    · exact List.mem_cons_of_mem _ (ih h)
theorem loop_okG {C : Cfg} (hC : ∀ t Y, C.ty t = some Y → tyOf C.P t = some Y) (y : Bool) {tab : Tab} {n : Nat} (hS : SpOK C tab n) {f : FuncId} {k : Nat} {b : Code} (hb : LoopsOKK C tab n k f b) {s : LSig} (hlv : LiveOK C f b s) {G : List D → T (Ex × List D)} (μ : List D → Nat)
    (round : ∀ ds r, (G ds).run = some r → μ ds < C.fuel ∧ ∃ o, (roundTG y C tab f b k s ds).run = some o ∧ ((∃ ds', o = .again ds' ∧ (G ds').run = some r ∧ μ ds' < μ ds) ∨ o = .out r.1 r.2)) : LoopSimY C n k f b tab.y tab.q (mkLG y k s G) := by
  intro σ e σ' h
  unfold mkLG at h
  split at h
  case h_2 => cases h
  rename_i ds hds
  rw [T.run_bind, Option.bind_eq_some_iff] at h
  obtain ⟨⟨e0, r⟩, hG, h⟩ := h
  simp only at h
  split at h
  case h_2 => cases h
  rename_i x hx
  cases h
  have hann : ∀ σ, gcOfS C k f b σ = normS k s.live σ := fun σ => by unfold gcOfS; rw [hlv.1]
  have hannX : gcX C k f b e = norm k x.1 := by
    have := hlv.2 _ (exitOf_mem hx)
    unfold gcX
    funext τ
    cases e with
    | normal => exact this.elim
    | exit id => simp only at this ⊢; rw [this]
    | ret => simp only at this ⊢; rw [this]
    | pan t => simp only at this ⊢; rw [this]
  -- what was yielded before stays
  have hlogf : ∀ {ss : List Shp} {σ : SSt} {ds : List D}, fitsL y ss σ = some ds → (headL y ss ds).log = σ.log := fun {ss σ ds} h => by
    unfold fitsL at h
    unfold headL
    cases y with
    | false =>
      simp only at h ⊢
      split at h
      · rename_i hl; rw [hl]; exact headA_log _ _
      · cases h
    | true =>
      simp only [Option.map_eq_some_iff] at h
      obtain ⟨ds', h1, rfl⟩ := h
      rfl
  have klog : ∀ (m : Nat) (ds : List D), (G ds).run = some (e, r) → μ ds < m → (headL y s.head ds).log <+: (headL y x.2 r).log := by
    intro m
    induction m with
    | zero => intro ds _ hlt; omega
    | succ m ih =>
      intro ds hG hlt
      obtain ⟨-, o, ho, hcase⟩ := round ds (e, r) hG
      unfold roundTG at ho
      rw [T.run_bind, Option.bind_eq_some_iff] at ho
      obtain ⟨⟨eb, σb⟩, h1, h2⟩ := ho
      have hpre := exec_log b hb h1
      cases eb with
      | normal =>
        simp only [T.run_ofO, Option.map_eq_some_iff] at h2
        obtain ⟨ds1, h5, rfl⟩ := h2
        rcases hcase with ⟨ds', h6, h7, h8⟩ | h6
        · cases h6
          have := ih ds1 h7 (by omega)
          rw [hlogf h5] at this
          exact hpre.trans this
        · cases h6
      | exit id =>
        simp only at h2
        split at h2
        · rename_i z hz
          rw [T.run_ofO, Option.map_eq_some_iff] at h2
          obtain ⟨ds1, h5, rfl⟩ := h2
          rcases hcase with ⟨ds', h6, _⟩ | h6
          · cases h6
          · cases h6
            rw [hx] at hz; cases hz
            rw [hlogf h5]; exact hpre
        · cases h2
      | ret =>
        simp only at h2
        split at h2
        · rename_i z hz
          rw [T.run_ofO, Option.map_eq_some_iff] at h2
          obtain ⟨ds1, h5, rfl⟩ := h2
          rcases hcase with ⟨ds', h6, _⟩ | h6
          · cases h6
          · cases h6
            rw [hx] at hz; cases hz
            rw [hlogf h5]; exact hpre
        · cases h2
      | pan t =>
        simp only at h2
        split at h2
        · rename_i z hz
          rw [T.run_ofO, Option.map_eq_some_iff] at h2
          obtain ⟨ds1, h5, rfl⟩ := h2
          rcases hcase with ⟨ds', h6, _⟩ | h6
          · cases h6
          · cases h6
            rw [hx] at hz; cases hz
            rw [hlogf h5]; exact hpre
        · cases h2
  have hl0 : (headL y s.head ds).log = σ.log := (hlogf hds).trans rfl
  refine ⟨by rw [← hl0]; exact klog _ ds hG (Nat.lt_succ_self _), ?_⟩
  intro τ hr S H P Lg hcs hp s0 hs0
  have key : ∀ (m : Nat) (ds : List D) (τ : St) (s0 : S), (G ds).run = some (e, r) → μ ds < m → SSR (headL y s.head ds) (gcOf C k f b τ) → P (headL y s.head ds).log.length s0 →
      ∃ τ' s', loopA (gcOf C k f b) (execA C (callA C n) f k H b) m τ s0 = some (e, τ', s') ∧ P (headL y x.2 r).log.length s' ∧ SSR (headL y x.2 r) (gcX C k f b e τ') := by
    intro m
    induction m with
    | zero => intro ds τ s0 _ hlt; omega
    | succ m ih =>
      intro ds τ s0 hG hlt hr hs0
      obtain ⟨-, o, ho, hcase⟩ := round ds (e, r) hG
      unfold roundTG at ho
      rw [T.run_bind, Option.bind_eq_some_iff] at ho
      obtain ⟨⟨eb, σb⟩, h1, h2⟩ := ho
      cases eb with
      | normal =>
        simp only [T.run_ofO, Option.map_eq_some_iff] at h2
        obtain ⟨ds1, h5, rfl⟩ := h2
        rcases hcase with ⟨ds', h6, h7, h8⟩ | h6
        · cases h6
          have hpb : σb.log <+: Lg := by
            have := klog _ ds1 h7 (Nat.lt_succ_self _)
            rw [hlogf h5] at this
            exact List.IsPrefix.trans this hp
          obtain ⟨τb, sb, h3, hsb, h4⟩ := exec_sim hC hS hS.2.2 hcs b hb h1 hpb hr hs0
          obtain ⟨k1, k2⟩ := fitsL_sim h5 (show SSR (normS k s.live σb) (gcOf C k f b τb) by rw [← hann]; exact gcOf_sim h4)
          obtain ⟨τ', s', h9, h10, h11⟩ := ih ds1 τb sb h7 (by omega) k1 (by rw [k2]; exact hsb)
          exact ⟨τ', s', by simp only [loopA, h3, h9], h10, h11⟩
        · cases h6
      | exit id =>
        simp only at h2
        split at h2
        · rename_i z hz
          rw [T.run_ofO, Option.map_eq_some_iff] at h2
          obtain ⟨ds1, h5, rfl⟩ := h2
          rcases hcase with ⟨ds', h6, _⟩ | h6
          · cases h6
          · cases h6
            rw [hx] at hz; cases hz
            have hlg := hlogf h5
            obtain ⟨τb, sb, h3, hsb, h4⟩ := exec_sim hC hS hS.2.2 hcs b hb h1 (show σb.log <+: Lg by rw [show σb.log = _ from hlg.symm]; exact hp) hr hs0
            exact ⟨τb, sb, by simp only [loopA, h3], by rw [hlg]; exact hsb, by rw [hannX]; exact (fitsL_sim h5 (norm_sim h4)).1⟩
        · cases h2
      | ret =>
        simp only at h2
        split at h2
        · rename_i z hz
          rw [T.run_ofO, Option.map_eq_some_iff] at h2
          obtain ⟨ds1, h5, rfl⟩ := h2
          rcases hcase with ⟨ds', h6, _⟩ | h6
          · cases h6
          · cases h6
            rw [hx] at hz; cases hz
            have hlg := hlogf h5
            obtain ⟨τb, sb, h3, hsb, h4⟩ := exec_sim hC hS hS.2.2 hcs b hb h1 (show σb.log <+: Lg by rw [show σb.log = _ from hlg.symm]; exact hp) hr hs0
            exact ⟨τb, sb, by simp only [loopA, h3], by rw [hlg]; exact hsb, by rw [hannX]; exact (fitsL_sim h5 (norm_sim h4)).1⟩
        · cases h2
      | pan t =>
        simp only at h2
        split at h2
        · rename_i z hz
          rw [T.run_ofO, Option.map_eq_some_iff] at h2
          obtain ⟨ds1, h5, rfl⟩ := h2
          rcases hcase with ⟨ds', h6, _⟩ | h6
          · cases h6
          · cases h6
            rw [hx] at hz; cases hz
            have hlg := hlogf h5
            obtain ⟨τb, sb, h3, hsb, h4⟩ := exec_sim hC hS hS.2.2 hcs b hb h1 (show σb.log <+: Lg by rw [show σb.log = _ from hlg.symm]; exact hp) hr hs0
            exact ⟨τb, sb, by simp only [loopA, h3], by rw [hlg]; exact hsb, by rw [hannX]; exact (fitsL_sim h5 (norm_sim h4)).1⟩
        · cases h2
  obtain ⟨τ', s', h1, h2, h3⟩ := key C.fuel ds τ s0 hG (round ds _ hG).1 (fitsL_sim hds (by rw [← hann]; exact gcOf_sim hr)).1 (by rw [hl0]; exact hs0)
  exact ⟨_, s', by simp only [execA, h1, Option.map_some], h2, h3⟩
theorem loop_okK {C : Cfg} (hC : ∀ t Y, C.ty t = some Y → tyOf C.P t = some Y) {tab : Tab} {n : Nat} (hS : SpOK C tab n) {f : FuncId} {k : Nat} {b : Code} (hb : LoopsOKK C tab n k f b) {s : LSig} (hlv : LiveOK C f b s) {G : List D → T (Ex × List D)} (μ : List D → Nat)
    (round : ∀ ds r, (G ds).run = some r → μ ds < C.fuel ∧ ∃ o, (roundTK C tab f b k s ds).run = some o ∧ ((∃ ds', o = .again ds' ∧ (G ds').run = some r ∧ μ ds' < μ ds) ∨ o = .out r.1 r.2)) : LoopSimY C n k f b tab.y tab.q (mkLK k s G) := loop_okG hC false hS hb hlv μ round
def loopAt : Nat → Code → Option Code
  | k, .loop b => if keyOf b = k then some b else loopAt k b
  | k, .seq a b => (loopAt k a).or (loopAt k b)
  | k, .cond _ a b => (loopAt k a).or (loopAt k b)
  | k, .block _ b => loopAt k b
  | k, .scope b => loopAt k b
  | k, .rangeFunc _ _ a b => (loopAt k a).or (loopAt k b)
  | _, _ => none
def bodyAt (P : Program) (f : FuncId) : Code := match P.funcs[f]? with
  | some fn => fn.body.getD .skip
  | none => .skip
def loopOf (P : Program) (f : FuncId) (k : Nat) : Code := (loopAt k (bodyAt P f)).getD .skip
def ix (c : List D) (j : Nat) : Int := (c.getD j default).I
def lx (c : List D) (j : Nat) : List (List D) := (c.getD j default).L
theorem wrap_id {x : Int} (h1 : -9223372036854775808 ≤ x) (h2 : x < 9223372036854775808) : IntKind.wrap .i64 x = x := by
  unfold IntKind.wrap
  simp [IntKind.signed, IntKind.bits]
  omega
theorem run_ite {α : Type} {c : Bool} {t e : T α} : (T.ite c t e).run = if c = true then t.run else e.run := rfl
theorem run_need {α : Type} {c : Bool} {t : T α} : (T.need c t).run = if c = true then t.run else none := rfl
theorem run_leaf {α : Type} {a : α} : (T.leaf a).run = some a := rfl
theorem need_some {α : Type} {c : Bool} {t : T α} {a : α} (h : (T.need c t).run = some a) : c = true ∧ t.run = some a := by
  rw [run_need] at h
  split at h
  · exact ⟨‹_›, h⟩
  · cases h
noncomputable def yes (p : Prop) : Bool := @decide p (Classical.propDecidable p)
theorem yes_iff {p : Prop} : yes p = true ↔ p := by unfold yes; exact @decide_eq_true_iff p (Classical.propDecidable p)
theorem yes_true {p : Prop} (h : p) : yes p = true := yes_iff.2 h
def within (n low high : Int) : Bool := decide (low ≤ n) && decide (n ≤ high)
theorem within_iff {n a b : Int} : within n a b = true ↔ a ≤ n ∧ n ≤ b := by simp [within]
def allFrom (p : Nat → Bool) : Nat → Nat → Bool
  | _, 0 => true
  | i, k + 1 => p i && allFrom p (i + 1) k
abbrev ShpT := Nat × List (Nat × SK) × List BK
def mkShp (t : ShpT) : Shp := ⟨slots t.1 0 t.2.1, t.2.2⟩
def mkLS (live : List Nat) (head : List ShpT) (exits : List (Ex × List Nat × List ShpT)) : LSig := ⟨live, head.map mkShp, exits.map fun e => (e.1, e.2.1, e.2.2.map mkShp)⟩
theorem need_yes {α : Type} {p : Prop} {t : T α} (h : p) : (T.need (yes p) t).run = t.run := by rw [run_need, if_pos (yes_true h)]
theorem I_i (n : Int) : (D.i n).I = n := rfl
theorem L_l (x : List (List D)) : (D.l x).L = x := rfl
theorem wrap_succ {k : Nat} (h : k < 9223372036854775807) : IntKind.i64.wrap ((k : Int) + 1) = ((k + 1 : Nat) : Int) := by rw [wrap_id (by omega) (by omega)]; rfl
def loopsIn : Code → List Code
  | .loop b => [b]
  | .seq a b => loopsIn a ++ loopsIn b
  | .cond _ a b => loopsIn a ++ loopsIn b
  | .block _ b => loopsIn b
  | .scope b => loopsIn b
  | _ => []
abbrev Rg := Operand × Array Tmp × Code × Code
def rangesIn : Code → List Rg
  | .rangeFunc g ps a b => [(g, ps, a, b)]
  | .seq a b => rangesIn a ++ rangesIn b
  | .cond _ a b => rangesIn a ++ rangesIn b
  | .block _ b => rangesIn b
  | .scope b => rangesIn b
  | _ => []
def Rg.code (r : Rg) : Code := .rangeFunc r.1 r.2.1 r.2.2.1 r.2.2.2
theorem loopsOK_ofG {C : Cfg} {tab : Tab} {n m : Nat} {f : FuncId} : ∀ (c : Code), (∀ b ∈ loopsIn c, ∀ L, tab.lp f (keyOf b) = some L → LoopSimY C n m f b tab.y tab.q L) → (∀ r ∈ rangesIn c, ∀ L, tab.rg f (keyOf r.2.2.2) = some L → CodeSim C n m f r.code tab.y tab.q L) → LoopsOKK C tab n m f c
  | .loop b, h, _ => h b (by simp [loopsIn])
  | .rangeFunc g ps a b, _, h => h (g, ps, a, b) (by simp [rangesIn])
  | .seq a b, h, h' => ⟨loopsOK_ofG a (fun x hx => h x (by simp [loopsIn, hx])) (fun x hx => h' x (by rw [rangesIn]; exact List.mem_append_left _ hx)), loopsOK_ofG b (fun x hx => h x (by simp [loopsIn, hx])) (fun x hx => h' x (by rw [rangesIn]; exact List.mem_append_right _ hx))⟩
  | .cond _ a b, h, h' => ⟨loopsOK_ofG a (fun x hx => h x (by simp [loopsIn, hx])) (fun x hx => h' x (by rw [rangesIn]; exact List.mem_append_left _ hx)), loopsOK_ofG b (fun x hx => h x (by simp [loopsIn, hx])) (fun x hx => h' x (by rw [rangesIn]; exact List.mem_append_right _ hx))⟩
  | .block _ b, h, h' => loopsOK_ofG b (fun x hx => h x (by simpa [loopsIn] using hx)) (fun x hx => h' x (by rw [rangesIn]; exact hx))
  | .scope b, h, h' => loopsOK_ofG b (fun x hx => h x (by simpa [loopsIn] using hx)) (fun x hx => h' x (by rw [rangesIn]; exact hx))
  | .skip, _, _ => trivial
  | .label _, _, _ => trivial
  | .region _ _ _, _, _ => trivial
  | .exit _, _, _ => trivial
  | .ret, _, _ => trivial
  | .goto _, _, _ => trivial
  | .refuse _, _, _ => trivial
theorem loopsOK_of {C : Cfg} {sp : SpL} {lp : LpL} {sw : SwL} {n m : Nat} {f : FuncId} (c : Code) (h : ∀ b ∈ loopsIn c, ∀ L, (mkTab sp lp sw).lp f (keyOf b) = some L → LoopSimK C n m f b L) : LoopsOKK C (mkTab sp lp sw) n m f c := loopsOK_ofG c h fun _ _ _ h => by cases h
theorem loops_of {C : Cfg} {sp : SpL} {lp : LpL} {sw : SwL} {n m : Nat} {f : FuncId} {c : Code} (keys : List Nat) (h1 : loopsIn c = keys.map (loopOf C.P f)) (h2 : keys.map (fun k => keyOf (loopOf C.P f k)) = keys)
    (h : ∀ k ∈ keys, ∀ L, lpOf lp k = some L → LoopSimK C n m f (loopOf C.P f k) L) : LoopsOKK C (mkTab sp lp sw) n m f c := by
  refine loopsOK_of c fun b hb L hL => ?_
  rw [h1, List.mem_map] at hb
  obtain ⟨k, hk, rfl⟩ := hb
  have hkey : keyOf (loopOf C.P f k) = k := by
    have := List.map_inj_left.1 (h2.trans (List.map_id keys).symm) k hk
    simpa using this
  simp only [mkTab, hkey] at hL
  exact h k hk L hL
def argSK (P : Program) (t : TypeId) : SK := match kindOf P 12 t with
  | some ks => if tyAgg P t then .agg (ks.map .k) else .k (ks.headD .bool)
  | none => .any
def hasBody (P : Program) (f : FuncId) : Bool := match P.funcs[f]? with
  | some fn => fn.body.isSome
  | none => false
theorem hasBody_spec {P : Program} {f : FuncId} (h : hasBody P f = true) : ∃ fn, P.funcs[f]? = some fn ∧ fn.body = some (bodyAt P f) := by
  unfold hasBody at h
  split at h
  · rename_i fn hfn
    obtain ⟨c, hc⟩ := Option.isSome_iff_exists.1 h
    exact ⟨fn, hfn, by simp [bodyAt, hfn, hc]⟩
  · cases h
def liveB (C : Cfg) (f : FuncId) (b : Code) (s : LSig) : Bool := (C.ann f (keyOf b) == some s.live) && s.exits.all fun p => match p.1 with
  | .normal => false
  | .exit id => C.annX f (keyOf b) (some id) == some p.2.1
  | .ret => C.annX f (keyOf b) none == some p.2.1
  | .pan _ => C.annX f (keyOf b) (some panId) == some p.2.1
theorem live_of {C : Cfg} {f : FuncId} {b : Code} {s : LSig} (h : liveB C f b s = true) : LiveOK C f b s := by
  unfold liveB at h
  simp only [Bool.and_eq_true, beq_iff_eq, List.all_eq_true] at h
  refine ⟨h.1, fun p hp => ?_⟩
  have := h.2 p hp
  split <;> rename_i e <;> rw [e] at this
  · cases this
  · simpa using this
  · simpa using this
  · simpa using this
section
variable {C : Cfg} (hC : ∀ t Y, C.ty t = some Y → tyOf C.P t = some Y) {sp : SpL} {lp : LpL} {n : Nat} {f : FuncId}
include hC
theorem fn_of (hsp : AllOK C n sp) (hf : hasBody C.P f = true) (keys : List Nat) (h1 : loopsIn (bodyAt C.P f) = keys.map (loopOf C.P f)) (h2 : keys.map (fun k => keyOf (loopOf C.P f k)) = keys)
    (hl : ∀ k ∈ keys, ∀ L, lpOf lp k = some L → LoopSim C n f (loopOf C.P f k) L) {s : Sig} {G : List D → T (List D)} (hG : ∀ ds r, (G ds).run = some r → (fnT C (mkTab sp lp) f s ds).run = some r) : FnOK C (n + 1) f (mkF s G) := by
  obtain ⟨fn, h3, h4⟩ := hasBody_spec hf
  exact fn_ok hC (spOK_of hsp) h3 h4 (loops_of keys h1 h2 hl) hG
theorem fn_ofS {sw : SwL} (hsp : AllOK C n sp) (hsw : AllOKW C n sw) (hf : hasBody C.P f = true) (keys : List Nat) (h1 : loopsIn (bodyAt C.P f) = keys.map (loopOf C.P f)) (h2 : keys.map (fun k => keyOf (loopOf C.P f k)) = keys)
    (hl : ∀ k ∈ keys, ∀ L, lpOf lp k = some L → LoopSim C n f (loopOf C.P f k) L) {s : Sig} {G : List D → T (List D)} (hG : ∀ ds r, (G ds).run = some r → (fnT C (mkTab sp lp sw) f s ds).run = some r) : FnOK C (n + 1) f (mkF s G) := by
  obtain ⟨fn, h3, h4⟩ := hasBody_spec hf
  exact fn_ok hC (spOK_ofW hsp hsw) h3 h4 (loops_of keys h1 h2 hl) hG
theorem fn_ofW {sw : SwL} (hsp : AllOK C n sp) (hsw : AllOKW C n sw) (hf : hasBody C.P f = true) (keys : List Nat) (h1 : loopsIn (bodyAt C.P f) = keys.map (loopOf C.P f)) (h2 : keys.map (fun k => keyOf (loopOf C.P f k)) = keys) {s : SigW}
    (hl : ∀ k ∈ keys, ∀ L, lpOf lp k = some L → LoopSimK C n s.hin.length f (loopOf C.P f k) L) {G : List D → T (List D)} (hG : ∀ ds r, (G ds).run = some r → (fnTW C (mkTab sp lp sw) f s ds).run = some r) : FnOKW C (n + 1) f (mkFW s G) := by
  obtain ⟨fn, h3, h4⟩ := hasBody_spec hf
  exact fn_okW hC (spOK_ofW hsp hsw) h3 h4 (loops_of keys h1 h2 hl) hG
theorem loop_ofK {sw : SwL} (hsp : AllOK C n sp) (hsw : AllOKW C n sw) (m : Nat) {b : Code} (keys : List Nat) (h1 : loopsIn b = keys.map (loopOf C.P f)) (h2 : keys.map (fun k => keyOf (loopOf C.P f k)) = keys)
    (hl : ∀ k ∈ keys, ∀ L, lpOf lp k = some L → LoopSimK C n m f (loopOf C.P f k) L) {s : LSig} (hlv : liveB C f b s = true) {G : List D → T (Ex × List D)} (μ : List D → Nat)
    (round : ∀ ds r, (G ds).run = some r → μ ds < C.fuel ∧ ∃ o, (roundTK C (mkTab sp lp sw) f b m s ds).run = some o ∧ ((∃ ds', o = .again ds' ∧ (G ds').run = some r ∧ μ ds' < μ ds) ∨ o = .out r.1 r.2)) : LoopSimK C n m f b (mkLK m s G) :=
  loop_okK hC (spOK_ofW hsp hsw) (loops_of keys h1 h2 hl) (live_of hlv) μ round
end
def RdOK (G : List D → T (Ex × List D)) (μ : List D → Nat) (ds : List D) (r : Ex × List D) (X : Option Rd) : Prop := ∃ o, X = some o ∧ ((∃ ds', o = .again ds' ∧ (G ds').run = some r ∧ μ ds' < μ ds) ∨ o = .out r.1 r.2)
theorem EncC_congr : ∀ {ks : List K} {c c' : List D} {j j' : Nat} {vs : List AV}, (∀ i, i < ks.length → c.getD (j + i) default = c'.getD (j' + i) default) → EncC ks c j vs → EncC ks c' j' vs
  | [], _, _, _, _, _, _, h => by simpa only [EncC] using h
  | k :: ks, c, c', j, j', vs, he, h => by
    simp only [EncC] at h ⊢
    obtain ⟨v, vs', rfl, h1, h2⟩ := h
    refine ⟨v, vs', rfl, ?_, EncC_congr (fun i hi => ?_) h2⟩
    · have := he 0 (by simp)
      simp only [Nat.add_zero] at this
      rw [← this]; exact h1
    · have := he (i + 1) (by simp; omega)
      rw [show j + 1 + i = j + (i + 1) by omega, show j' + 1 + i = j' + (i + 1) by omega]
      exact this
theorem EncC_app : ∀ {a b : List K} {c : List D} {j : Nat} {p q : List AV}, EncC a c j p → EncC b c (j + a.length) q → EncC (a ++ b) c j (p ++ q)
  | [], b, c, j, p, q, h1, h2 => by
    simp only [EncC] at h1; subst h1
    simpa using h2
  | k :: a, b, c, j, p, q, h1, h2 => by
    simp only [EncC] at h1
    obtain ⟨v, vs', rfl, h3, h4⟩ := h1
    simp only [List.cons_append, EncC]
    refine ⟨v, vs' ++ q, rfl, h3, EncC_app h4 ?_⟩
    rw [show j + 1 + a.length = j + (k :: a).length by simp; omega]
    exact h2
def sized (P : Program) : Nat → TypeId → Bool
  | 0, _ => false
  | d + 1, t => match P.underlying t with
    | some .bool => true
    | some (.int _) => true
    | some (.slice e) => ((kindOf P d e).map List.length == some (P.cellsOf e)) && sized P d e
    | some (.struct fs) => fs.toList.all fun f => sized P d f.type
    | _ => false
mutual
/-- Data as arguments have them: integers in their range, lists not longer than a slice can be. -/
def WfK : K → D → Prop
  | .int k, d => (Lit.int k d.I).wf = true
  | .bool, _ => True
  | .ro ks, d => d.L.length ≤ maxLen ∧ ∀ c ∈ d.L, WfC ks c 0
  | .opt _, _ => True
  | .alt _, _ => True
def WfC : List K → List D → Nat → Prop
  | [], _, _ => True
  | k :: ks, c, j => WfK k (c.getD j default) ∧ WfC ks c (j + 1)
end
theorem WfC_congr : ∀ {ks : List K} {c c' : List D} {j j' : Nat}, (∀ i, i < ks.length → c.getD (j + i) default = c'.getD (j' + i) default) → WfC ks c j → WfC ks c' j'
  | [], _, _, _, _, _, _ => trivial
  | k :: ks, c, c', j, j', he, h => by
    simp only [WfC] at h ⊢
    refine ⟨?_, WfC_congr (fun i hi => ?_) h.2⟩
    · have := he 0 (by simp)
      simp only [Nat.add_zero] at this
      rw [← this]; exact h.1
    · have := he (i + 1) (by simp; omega)
      rw [show j + 1 + i = j + (i + 1) by omega, show j' + 1 + i = j' + (i + 1) by omega]
      exact this
theorem WfC_app : ∀ {a b : List K} {c : List D} {j : Nat}, WfC a c j → WfC b c (j + a.length) → WfC (a ++ b) c j
  | [], b, c, j, _, h2 => by simpa using h2
  | k :: a, b, c, j, h1, h2 => by
    simp only [WfC, List.cons_append] at h1 ⊢
    refine ⟨h1.1, WfC_app h1.2 ?_⟩
    rw [show j + 1 + a.length = j + (k :: a).length by simp; omega]
    exact h2
theorem WfC_join {a b : List K} {x y : List D} (hl : x.length = a.length) (h1 : WfC a x 0) (h2 : WfC b y 0) : WfC (a ++ b) (x ++ y) 0 := by
  refine WfC_app (WfC_congr (fun i hi => ?_) h1) (WfC_congr (fun i hi => ?_) h2)
  · simp only [Nat.zero_add, List.getD_eq_getElem?_getD]
    rw [List.getElem?_append_left (by omega)]
  · simp only [Nat.zero_add, List.getD_eq_getElem?_getD]
    rw [List.getElem?_append_right (by omega), hl]
    congr 2
    omega
theorem shape_enc (P : Program) : ∀ (d d' : Nat) (t : TypeId) (as : List AV) (ks : List K), Shape P d t as → kindOf P d' t = some ks → sized P d' t = true → ∃ ds : List D, ds.length = ks.length ∧ EncC ks ds 0 as ∧ WfC ks ds 0 := by
  intro d
  induction d with
  | zero => intro d' t as ks h; exact h.elim
  | succ d ih =>
    intro d' t as ks h hk hz
    cases d' with
    | zero => cases hk
    | succ d' =>
      unfold Shape at h
      unfold kindOf at hk
      unfold sized at hz
      split at h
      · rename_i hu
        rw [hu] at hk hz
        simp only [Option.some.injEq] at hk
        subst hk
        obtain ⟨b, rfl⟩ := h
        exact ⟨[.b b], rfl, ⟨_, _, rfl, rfl, rfl⟩, trivial, trivial⟩
      · rename_i k hu
        rw [hu] at hk hz
        simp only [Option.some.injEq] at hk
        subst hk
        obtain ⟨n, rfl, hw⟩ := h
        exact ⟨[.i n], rfl, ⟨_, _, rfl, rfl, rfl⟩, hw, trivial⟩
      · rename_i e hu
        rw [hu] at hk hz
        simp only [Option.map_eq_some_iff] at hk
        obtain ⟨ks', hk', rfl⟩ := hk
        obtain ⟨es, hsh, hl, hes⟩ := h
        rcases hsh with rfl | ⟨-, rfl⟩
        case inr =>
          refine ⟨[.l []], rfl, ⟨_, _, rfl, ?_, rfl⟩, ⟨Nat.zero_le _, fun c hc => by cases hc⟩, trivial⟩
          simp only [List.getD_cons_zero, EncV, D.L]
          exact .inl ⟨by trivial, by trivial⟩
        simp only [Bool.and_eq_true, beq_iff_eq, hk', Option.map_some, Option.some.injEq] at hz
        obtain ⟨l, hl1, hl2⟩ : ∃ l : List (List D), l.length = es.length ∧ ∀ (i : Nat) (x : List AV) (c : List D), es[i]? = some x → l[i]? = some c → c.length = ks'.length ∧ EncC ks' c 0 x ∧ WfC ks' c 0 := by
          refine exists_list es fun i x hx => ?_
          exact ih d' e x ks' (hes x (List.mem_of_getElem? hx)) hk' hz.2
        have hcells : P.cellsOf e = ks'.length := hz.1.symm
        refine ⟨[.l l], rfl, ⟨_, _, rfl, ?_, rfl⟩, ⟨?_, ?_⟩, trivial⟩
        · simp only [List.getD_cons_zero, EncV, D.L]
          exact .inr ⟨_, _, _, by rw [hcells], hl1.symm, fun i x c h1 h2 => (hl2 i x c h1 h2).2.1⟩
        · simp only [List.getD_cons_zero, D.L]; omega
        · simp only [List.getD_cons_zero, D.L]
          intro c hc
          obtain ⟨i, hi, rfl⟩ := List.getElem_of_mem hc
          exact (hl2 i _ _ (List.getElem?_eq_getElem (by omega)) (List.getElem?_eq_getElem hi)).2.2
      · rename_i fs hu
        rw [hu] at hk hz
        simp only [List.all_eq_true] at hk hz
        generalize fs.toList = fl at h hk hz
        clear hu
        induction fl generalizing as ks with
        | nil =>
          simp only [Parts] at h
          simp only [kindF, Option.some.injEq] at hk
          subst h hk
          exact ⟨[], rfl, rfl, trivial⟩
        | cons f fl ihf =>
          simp only [Parts] at h
          simp only [kindF] at hk
          obtain ⟨p, q, rfl, h1, h2⟩ := h
          split at hk
          · rename_i a b ha hb
            simp only [Option.some.injEq] at hk
            subst hk
            obtain ⟨x, hx1, hx2, hx3⟩ := ih d' _ p a h1 ha (hz f (by simp))
            obtain ⟨y, hy1, hy2, hy3⟩ := ihf q b h2 hb (fun g hg => hz g (by simp [hg]))
            refine ⟨x ++ y, by simp [hx1, hy1], EncC_app (EncC_congr (fun i hi => ?_) hx2) (EncC_congr (fun i hi => ?_) hy2), WfC_join hx1 hx3 hy3⟩
            · simp only [Nat.zero_add, List.getD_eq_getElem?_getD]
              rw [List.getElem?_append_left (by omega)]
            · simp only [Nat.zero_add, List.getD_eq_getElem?_getD]
              rw [List.getElem?_append_right (by omega), hx1]
              congr 2
              omega
          · cases hk
      · exact h.elim
theorem decFrom_eq : ∀ (ks : List K) (ds r : List D) (j : Nat) (c : List D), ds.length = ks.length → (∀ i, i < ks.length → c.getD (j + i) default = ds.getD i default) → (headVs (ks.map .k) (ds ++ r)) = (decFrom ks c j, r)
  | [], ds, r, j, c, hl, _ => by
    cases ds with
    | nil => rfl
    | cons d ds => simp at hl
  | k :: ks, ds, r, j, c, hl, hc => by
    cases ds with
    | nil => simp at hl
    | cons d ds =>
      have := decFrom_eq ks ds r (j + 1) c (by simpa using hl) (fun i hi => by
        have := hc (i + 1) (by simp; omega)
        rw [show j + 1 + i = j + (i + 1) by omega, this]
        simp)
      simp only [List.map_cons, headVs, headV, List.cons_append, List.headD_cons, List.tail_cons, decFrom, this]
      have h0 := hc 0 (by simp)
      simp only [Nat.add_zero, List.getD_cons_zero] at h0
      rw [h0]
def kindsN (P : Program) (t : TypeId) : Nat := ((kindOf P 12 t).getD []).length
def kindsL (P : Program) (t : TypeId) : List K := (kindOf P 12 t).getD []
def argFit (P : Program) (t : TypeId) : Bool := (kindOf P 12 t).isSome && sized P 12 t && (tyAgg P t || kindsN P t == 1)
theorem args_enc (P : Program) (d : Nat) : ∀ (ts : List TypeId) (xs : List AV) (r : List D), ArgsShape P d ts xs → (∀ t ∈ ts, argFit P t = true) → ∃ ds : List D, ds.length = (ts.map (kindsN P)).sum ∧ VRL (headVs (ts.map (argSK P)) (ds ++ r)).1 xs ∧ (headVs (ts.map (argSK P)) (ds ++ r)).2 = r ∧ WfC (ts.flatMap (kindsL P)) ds 0
  | [], xs, r, h, _ => by
    simp only [ArgsShape] at h; subst h
    exact ⟨[], rfl, rfl, rfl, trivial⟩
  | t :: ts, xs, r, h, hf => by
    simp only [ArgsShape] at h
    obtain ⟨cs, rest, rfl, h1, h2⟩ := h
    obtain ⟨ds2, hl2, hv2, hr2, hw2⟩ := args_enc P d ts rest r h2 (fun t ht => hf t (by simp [ht]))
    have hft := hf t (by simp)
    simp only [argFit, Bool.and_eq_true, Bool.or_eq_true, beq_iff_eq] at hft
    obtain ⟨⟨hk, hz⟩, hg⟩ := hft
    obtain ⟨ks, hks⟩ := Option.isSome_iff_exists.1 hk
    obtain ⟨ds1, hl1, he, hw1⟩ := shape_enc P d 12 t cs ks h1 hks hz
    have hkn : kindsN P t = ks.length := by simp [kindsN, hks]
    have hdec := decFrom_eq ks ds1 (ds2 ++ r) 0 ds1 hl1 (fun i hi => by simp)
    have hvr := EncC_dec he
    have key : VR (headV (argSK P t) (ds1 ++ (ds2 ++ r))).1 (argOf P t cs) ∧ (headV (argSK P t) (ds1 ++ (ds2 ++ r))).2 = ds2 ++ r := by
      unfold argSK argOf
      rw [hks]
      simp only
      split
      · simp only [headV, hdec, VR]
        exact ⟨⟨cs, rfl, hvr⟩, trivial⟩
      · rename_i hag
        have h1k : ks.length = 1 := by rw [← hkn]; exact hg.resolve_left (by simpa using hag)
        match ks, h1k with
        | [k], _ =>
          match ds1, hl1 with
          | [x], _ =>
            simp only [EncC] at he
            obtain ⟨v, vs', rfl, h3, rfl⟩ := he
            simp only [List.headD_cons, headV, List.cons_append, List.nil_append, List.tail_cons]
            exact ⟨EncV_dec h3, trivial⟩
    have hkl : kindsL P t = ks := by simp [kindsL, hks]
    refine ⟨ds1 ++ ds2, by simp [hl1, hl2, hkn], ?_, ?_, by rw [List.flatMap_cons, hkl]; exact WfC_join hl1 hw1 hw2⟩
    · simp only [List.map_cons, headVs, List.append_assoc]
      rw [key.2]
      exact ⟨_, _, rfl, key.1, hv2⟩
    · simp only [List.map_cons, headVs, List.append_assoc]
      rw [key.2]
      exact hr2
theorem law_true_wfW {C : Cfg} (hC : ∀ t Y, C.ty t = some Y → tyOf C.P t = some Y) {sp : SpL} {lp : LpL} {sw : SwL} {n : Nat} {f : FuncId} (hsp : AllOK C n sp) (hsw : AllOKW C n sw) (hf : hasBody C.P f = true) (keys : List Nat) (h1 : loopsIn (bodyAt C.P f) = keys.map (loopOf C.P f)) (h2 : keys.map (fun k => keyOf (loopOf C.P f k)) = keys)
    (hl : ∀ k ∈ keys, ∀ L, lpOf lp k = some L → LoopSim C n f (loopOf C.P f k) L) {ts : List TypeId} {ks : List SK} (hks : ks = ts.map (argSK C.P)) (hfit : ∀ t ∈ ts, argFit C.P t = true) {m : Nat} (hm : (ts.map (kindsN C.P)).sum = m)
    (hrun : ∀ ds : List D, ds.length = m → WfC (ts.flatMap (kindsL C.P)) ds 0 → (fnT C (mkTab sp lp sw) f ⟨ks, [(.k .bool, [])]⟩ ds).run = some [D.b true]) (d : Nat) (xs : List AV) (hx : ArgsShape C.P d ts xs) : ∃ n h', callA C n Unit none f xs [] () = some (.bool true, h', ()) := by
  obtain ⟨ds, hlen, hv, -, hwf⟩ := args_enc C.P d ts xs [] hx hfit
  rw [List.append_nil, ← hks] at hv
  have hr := hrun ds (hlen.trans hm) hwf
  unfold fnT at hr
  rw [T.run_bind, Option.bind_eq_some_iff] at hr
  obtain ⟨⟨v0, h0⟩, hc, hfr⟩ := hr
  rw [T.run_ofO] at hfr
  obtain ⟨fn, h3, h4⟩ := hasBody_spec hf
  obtain ⟨v', h', h5, h6, h7⟩ := call_sim hC (spOK_ofW hsp hsw) h3 h4 (loops_of keys h1 h2 hl) _ _ _ hc xs hv
  have h8 := (fitsR_sim hfr h6 h7).1
  refine ⟨n + 1, h', ?_⟩
  rw [h5]
  have : v' = .bool true := h8
  rw [this]
theorem law_true_wf {C : Cfg} (hC : ∀ t Y, C.ty t = some Y → tyOf C.P t = some Y) {sp : SpL} {lp : LpL} {n : Nat} {f : FuncId} (hsp : AllOK C n sp) (hf : hasBody C.P f = true) (keys : List Nat) (h1 : loopsIn (bodyAt C.P f) = keys.map (loopOf C.P f)) (h2 : keys.map (fun k => keyOf (loopOf C.P f k)) = keys)
    (hl : ∀ k ∈ keys, ∀ L, lpOf lp k = some L → LoopSim C n f (loopOf C.P f k) L) {ts : List TypeId} {ks : List SK} (hks : ks = ts.map (argSK C.P)) (hfit : ∀ t ∈ ts, argFit C.P t = true) {m : Nat} (hm : (ts.map (kindsN C.P)).sum = m)
    (hrun : ∀ ds : List D, ds.length = m → WfC (ts.flatMap (kindsL C.P)) ds 0 → (fnT C (mkTab sp lp) f ⟨ks, [(.k .bool, [])]⟩ ds).run = some [D.b true]) (d : Nat) (xs : List AV) (hx : ArgsShape C.P d ts xs) : ∃ n h', callA C n Unit none f xs [] () = some (.bool true, h', ()) :=
  law_true_wfW hC hsp (sw := []) trivial hf keys h1 h2 hl hks hfit hm hrun d xs hx
section
variable {α : Type} {x : Option α}
theorem go_dec {p : Prop} [Decidable p] {t : T α} (hp : p) (h : t.run = x) : (T.need (decide p) t).run = x := by rw [run_need, if_pos (decide_eq_true hp)]; exact h
theorem go_yes {p : Prop} {t : T α} (hp : p) (h : t.run = x) : (T.need (yes p) t).run = x := by rw [run_need, if_pos (yes_true hp)]; exact h
theorem go_need {c : Bool} {t : T α} (hc : c = true) (h : t.run = x) : (T.need c t).run = x := by rw [run_need, if_pos hc]; exact h
theorem go_if {p : Prop} [Decidable p] {t e : T α} (h1 : p → t.run = x) (h2 : ¬ p → e.run = x) : (T.ite (decide p) t e).run = x := by
  rw [run_ite]
  by_cases hp : p
  · rw [if_pos (decide_eq_true hp)]; exact h1 hp
  · rw [if_neg (by simpa using hp)]; exact h2 hp
theorem go_ite {c : Bool} {t e : T α} (h1 : c = true → t.run = x) (h2 : c = false → e.run = x) : (T.ite c t e).run = x := by
  rw [run_ite]
  cases c with
  | true => exact h1 rfl
  | false => exact h2 rfl
theorem go_not {c : Bool} {t e : T α} (h1 : c = false → t.run = x) (h2 : c = true → e.run = x) : (T.ite (!c) t e).run = x := by
  rw [run_ite]
  cases c with
  | true => exact h2 rfl
  | false => exact h1 rfl
theorem go_neg {p : Prop} [Decidable p] {t e : T α} (hp : ¬ p) (h : e.run = x) : (T.ite (decide p) t e).run = x := by rw [run_ite, if_neg (by simpa using hp)]; exact h
theorem go_true {c : Bool} {t e : T α} (hc : c = true) (h : t.run = x) : (T.ite c t e).run = x := by rw [run_ite, if_pos hc]; exact h
theorem go_false {c : Bool} {t e : T α} (hc : c = false) (h : e.run = x) : (T.ite c t e).run = x := by rw [run_ite, hc]; exact h
end
section
variable {G : List D → T (Ex × List D)} {μ : List D → Nat} {ds : List D} {r : Ex × List D}
theorem rd_dec {p : Prop} [Decidable p] {t : T Rd} (hp : p) (h : RdOK G μ ds r t.run) : RdOK G μ ds r (T.need (decide p) t).run := by rw [run_need, if_pos (decide_eq_true hp)]; exact h
theorem rd_yes {p : Prop} {t : T Rd} (hp : p) (h : RdOK G μ ds r t.run) : RdOK G μ ds r (T.need (yes p) t).run := by rw [run_need, if_pos (yes_true hp)]; exact h
theorem rd_if {p : Prop} [Decidable p] {t e : T Rd} (h1 : p → RdOK G μ ds r t.run) (h2 : ¬ p → RdOK G μ ds r e.run) : RdOK G μ ds r (T.ite (decide p) t e).run := by
  rw [run_ite]
  by_cases hp : p
  · rw [if_pos (decide_eq_true hp)]; exact h1 hp
  · rw [if_neg (by simpa using hp)]; exact h2 hp
theorem rd_ite {c : Bool} {t e : T Rd} (h1 : c = true → RdOK G μ ds r t.run) (h2 : c = false → RdOK G μ ds r e.run) : RdOK G μ ds r (T.ite c t e).run := by
  rw [run_ite]
  cases c with
  | true => exact h1 rfl
  | false => exact h2 rfl
theorem rd_not {c : Bool} {t e : T Rd} (h1 : c = false → RdOK G μ ds r t.run) (h2 : c = true → RdOK G μ ds r e.run) : RdOK G μ ds r (T.ite (!c) t e).run := by
  rw [run_ite]
  cases c with
  | true => exact h2 rfl
  | false => exact h1 rfl
theorem rd_false {c : Bool} {t e : T Rd} (hc : c = false) (h : RdOK G μ ds r e.run) : RdOK G μ ds r (T.ite c t e).run := by rw [run_ite, hc]; exact h
theorem rd_pos {p : Prop} [Decidable p] {t e : T Rd} (hp : p) (h : RdOK G μ ds r t.run) : RdOK G μ ds r (T.ite (decide p) t e).run := by rw [run_ite, if_pos (decide_eq_true hp)]; exact h
theorem rd_neg {p : Prop} [Decidable p] {t e : T Rd} (hp : ¬ p) (h : RdOK G μ ds r e.run) : RdOK G μ ds r (T.ite (decide p) t e).run := by rw [run_ite, if_neg (by simpa using hp)]; exact h
theorem rd_again {ds' : List D} (h1 : (G ds').run = some r) (h2 : μ ds' < μ ds) : RdOK G μ ds r (T.leaf (Rd.again ds')).run := ⟨_, rfl, .inl ⟨_, rfl, h1, h2⟩⟩
theorem rd_out {e : Ex} {ds' : List D} (h : some (e, ds') = some r) : RdOK G μ ds r (T.leaf (Rd.out e ds')).run := by
  cases h
  exact ⟨_, rfl, .inr rfl⟩
end
noncomputable def Gcl (ds : List D) : T (List D) := match ds with
  | [l] => .need (yes (l.L.length ≤ 1073741824)) (.ite l.L.isEmpty (.leaf [.i 1]) (.leaf [.i 0, .i l.L.length, .l l.L]))
  | _ => .fail
noncomputable def Gcl1 (ds : List D) : T (List D) := match ds with
  | [l] => .need (yes (l.L ≠ [] ∧ l.L.length ≤ 1073741824)) (.leaf [.i 0, .i l.L.length, .l l.L])
  | _ => .fail
theorem clone_ok {C : Cfg} {n : Nat} {f : FuncId} {ks : List K} (k1 : callA C n Unit none f [.nils] [] () = some (.nils, [], ())) (k2 : ∀ kd c0, callA C n Unit none f [.ro kd c0 ks.length []] [] () = some (.ro .g true ks.length [], [], ()))
    (k3 : FnOK C n f (mkF ⟨[.k (.ro ks)], [(.sl 0 ks.length, [.row ks]), (.emp ks.length, [])]⟩ Gcl1)) : FnOK C n f (mkF ⟨[.k (.ro ks)], [(.sl 0 ks.length, [.row ks]), (.emp ks.length, [])]⟩ Gcl) := by
  intro args v hb h avs hv
  unfold mkF at h
  split at h
  case h_2 => cases h
  rename_i ds hds
  obtain ⟨hv1, -⟩ := fitsVs_sim _ [] hds hv
  rw [List.append_nil] at hv1
  rw [T.run_map, Option.map_eq_some_iff] at h
  obtain ⟨r, hr, he⟩ := h
  unfold Gcl at hr
  split at hr
  case h_2 => cases hr
  rename_i l
  obtain ⟨hp, hr⟩ := need_some hr
  rw [yes_iff] at hp
  rw [run_ite] at hr
  split at hr
  · rename_i hem
    simp only [run_leaf, Option.some.injEq] at hr
    subst hr
    simp only [headR, headR1, List.headD_cons, List.tail_cons, D.I, Prod.mk.injEq] at he
    obtain ⟨rfl, rfl⟩ := he
    simp only [headVs, headV, List.headD_cons, VRL] at hv1
    obtain ⟨a, _, rfl, ha, rfl⟩ := hv1
    have hl : l.L = [] := by simpa using hem
    simp only [dec, VR] at ha
    rcases ha with ⟨rfl, -⟩ | ⟨kd, c0, es, rfl, -, hes⟩
    · exact ⟨_, _, k1, by show VR (.emp ks.length) _; simp only [VR]; exact .inl trivial, rfl, fun i => by simp only [sget, hget, List.getElem?_nil]; trivial⟩
    · have : es = [] := by have := hes.1; rw [hl] at this; exact List.length_eq_zero_iff.1 this
      subst this
      exact ⟨_, _, k2 kd c0, by show VR (.emp ks.length) _; simp only [VR]; exact .inr trivial, rfl, fun i => by simp only [sget, hget, List.getElem?_nil]; trivial⟩
  · rename_i hem
    simp only [run_leaf, Option.some.injEq] at hr
    subst hr
    refine k3 args v hb ?_ avs hv
    unfold mkF
    rw [hds]
    simp only [T.run_map, Gcl1]
    rw [run_need, if_pos (yes_true ⟨fun h => hem (by rw [h]; rfl), hp⟩)]
    simp only [run_leaf, Option.map_some, Option.some.injEq]
    exact he
end Go.Lite
