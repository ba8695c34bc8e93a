import Derived.Test.YtlofnkkokcihnaaLiteAct
import Derived.Deep.Upon
namespace Go.Lite
section
variable {w w' : World} {G J U N : Nat → Prop} {ν ν' : Names} {h : Heap} {P : Program}

theorem and_fst {a b : Bool} (h : (a && b) = true) : a = true := by cases a; cases h; rfl
theorem and_snd {a b : Bool} (h : (a && b) = true) : b = true := by cases a; cases h; exact h

/-- What a slice's value yields: all of it, or its first elements. -/
theorem src_zero {sz c : Nat} {tx e' : TypeId} (hk : P.underlying tx = some (.slice e')) (a : Option Addr) : Src P sz tx (.slice a 0 c) 0 [] w := by
  cases a with
  | none => exact Src.ofNil w hk c
  | some a => exact Src.ofSlice w hk a 0 c [] (by simp) (fun j u h => by simp at h) (fun _ h => by cases h)
theorem slice_src {n c : Nat} {b o sz : Nat} {tx e' : TypeId} (hk : P.underlying tx = some (.slice e')) {cs : List AV} {ν : Names} {J : Nat → Prop} (hm : MemL w G cs ν J b o) (hl : cs.length = n * sz) :
    ∃ news, Src P sz tx (.slice (some ⟨b, o, none⟩) n c) n news w ∧ RelL w G cs ν J news ∧ ∀ k, k ≤ n → (Builtin.firstCells sz k (.slice (some ⟨b, o, none⟩) n c)).run P w = .ok (news.take (k * sz)).toArray w := by
  obtain ⟨vs, hvs, h1, hc⟩ := MemL_vals hm
  have hlen : vs.length = n * sz := by rw [← RelL_length hvs, hl]
  have hc' : ∀ j u, vs[j]? = some u → w.cell? ((⟨b, o, none⟩ : Addr).add j) = some u := fun j u hj => by rw [add_none]; exact hc j u hj
  refine ⟨vs, Src.ofSlice w hk _ n c vs hlen hc' h1, hvs, fun k hk => ?_⟩
  refine run_firstCells_some w sz k _ n c _ ?_ fun j u hj => ?_
  · rw [List.length_take, hlen]; exact Nat.min_eq_left (Nat.mul_le_mul_right sz hk)
  · rw [List.getElem?_take] at hj
    split at hj
    · exact hc' j u hj
    · cases hj
theorem contents_src (Sr : SR w G J U N ν h) {look : Nat → Option Blk} (hl : ∀ i B, look i = some B → hget h i = some B) {sz : Nat} {x : AV} {v : Value} (hx : Rel w G x ν J v) {xs : List (List AV)} {fx : Bool} (hc : contents look sz x = some (xs, fx))
    {tx e' : TypeId} (hk : P.underlying tx = some (.slice e')) :
    ∃ news, Src P sz tx v xs.length news w ∧ RelL w G xs.flatten (nu ν fx) (ju J fx) news ∧ (∀ e ∈ xs, e.length = sz) ∧ ∀ k, k ≤ xs.length → (Builtin.firstCells sz k v).run P w = .ok (news.take (k * sz)).toArray w := by
  cases x <;> simp only [contents, reduceCtorEq] at hc
  case nils =>
    cases hc
    simp only [Rel] at hx; subst hx
    refine ⟨[], Src.ofNil w hk 0, RelL_nil, (fun e he => by cases he), fun k hk => ?_⟩
    rw [show k = 0 by simpa using hk]
    simpa using run_firstCells_none (P := P) w sz 0 0 0
  case ro kd c0 s es =>
    split at hc
    case isFalse => cases hc
    rename_i hs
    cases hc
    subst hs
    simp only [Rel] at hx
    rcases hx with ⟨rfl, a, c, rfl, _⟩ | ⟨b, o, cap, rfl, _, _, _, hm⟩
    · refine ⟨[], src_zero hk a, RelL_nil, (fun e he => by cases he), fun k hk' => ?_⟩
      rw [show k = 0 by simpa using hk']
      simpa using (src_zero (w := w) (sz := s) (c := c) hk a).cells
    obtain ⟨hlen, hflat⟩ := MemE_flat hm
    obtain ⟨news, h1, h2, h3⟩ := slice_src hk hflat (flat_len hlen) (c := cap)
    refine ⟨news, h1, ?_, hlen, h3⟩
    cases kd with
    | g => exact h2
    | b => exact h2
    | n => exact RelL_mono (fun _ h => h) (fun _ _ => rfl) (fun _ => Nat.le_refl _) _ (Names.none_le _) (fun _ h => .inl h) (fun _ _ => rfl) h2
  case sl i s lo n cap =>
    split at hc
    case h_2 => cases hc
    rename_i s' es flat hlk
    split at hc
    case isFalse => cases hc
    rename_i hs
    obtain ⟨rfl, rfl, hle⟩ := hs
    cases hc
    simp only [Rel] at hx
    obtain ⟨b, o, c, hφ, rfl, _, ho, _⟩ := hx
    obtain ⟨b', hb', hB, _⟩ := sr_own Sr (hl _ _ hlk)
    rw [hφ] at hb'; cases hb'
    obtain ⟨_, hm⟩ := hB
    have hm2 : MemE w G ((es.drop lo).take n) (nu ν fx) (ju J fx) b o s' := by
      by_cases hn : 0 < n
      · rw [ho (.inl hn)]
        have := MemE_take n (MemE_drop lo hm)
        rwa [Nat.zero_add] at this
      · have : n = 0 := by omega
        subst this
        simp only [List.take_zero, MemE]
    have hln : ((es.drop lo).take n).length = n := by simp; omega
    obtain ⟨hlen, hflat⟩ := MemE_flat hm2
    obtain ⟨news, h1, h2, h3⟩ := slice_src hk hflat (flat_len hlen) (c := c)
    rw [hln] at h1 h3
    rw [hln]
    exact ⟨news, h1, h2, hlen, h3⟩

theorem run_append_room_row (w : World) (t tx ty e : TypeId) (i : TypeInfo) (ht : P.underlying t = some (.slice e)) (hi : P.info? e = some i) (b off sLen sCap : Nat) (x : Value) (n : Nat) (news : List Value) (hs : Src P i.size tx x n news w)
    {cur : Array Value} {elem : TypeId} (hg : w.heap[b]? = some (.cells cur elem (0, 0))) (hroom : sLen + n ≤ sCap) (hfit : off + sLen * i.size + news.length ≤ cur.size) :
    (Builtin.append_ #[t, tx] ty #[.slice (some ⟨b, off, none⟩) sLen sCap, x]).run P w =
      .ok (.slice (some ⟨b, off, none⟩) (sLen + n) sCap) (w.setRow b (cur.toList.take (off + sLen * i.size) ++ news ++ cur.toList.drop (off + sLen * i.size + news.length)).toArray) := by
  have hst := run_storeCells_at P b (off + sLen * i.size) elem news 0 cur w hg (by simpa using hfit) hs.one
  simp only [Nat.add_zero] at hst
  rcases hs.kind with ⟨e', hk⟩ | hk <;> simp [Builtin.append_, run_underlying ht, run_underlying hk, sizeOf, typeInfo, hi, hs.len, hroom, hs.cells, Addr.add_lit, hst]

/-- The world has drawn, and something is no longer owned. -/
theorem Ext.drewKill (w : World) (G U N : Nat → Prop) (ν : Names) (h : Heap) {h' : Heap} (hl : ∀ c, Own ν h' c → Own ν h c) : Ext w w.drew G G U U N N (Own ν h) (Own ν h') :=
  ⟨Nat.le_refl _, fun _ _ _ _ => rfl, fun _ h => .inl (hl _ h), fun _ h => .inl h, fun _ h => .inl h, fun _ h => h, fun _ h => .inl h, fun _ => Nat.le_refl _, rfl, rfl⟩

/-- A row that has grown. -/
theorem grow_left (Sr : SR w G J U N ν h) {h' : Heap} {ups : List (Nat × Option Blk)} (hups' : hups h ups = h') (hless : ∀ i B, hget h' i = some B → hget h i = some B) (hd : h.length ≤ h'.length) {S : Type} {s : S} {at_ : Nat} (hf : ν.φ at_ = none)
    {t tx ty e : TypeId} {i : TypeInfo} {z : Value} (ht : P.underlying t = some (.slice e)) (hi : P.info? e = some i) (hz : i.zero = some z) (hzl : z.cells.size = i.size)
    {base : Option Addr} {sLen sCap : Nat} {olds : List Value} (hold : (Builtin.firstCells i.size sLen (.slice base sLen sCap)).run P w.drew = .ok olds.toArray w.drew) {x : Value} {news : List Value} {xs es : List (List AV)} (hs : Src P i.size tx x xs.length news w)
    (hg : sCap < sLen + xs.length) (hbig : sLen + xs.length ≤ 2 ^ 40) (hby : (sLen + xs.length) * i.bytes ≤ 2 ^ 46) (hes : es.length = sLen) (hlen : ∀ e ∈ es ++ xs, e.length = i.size)
    {fl : Bool} (ho : RelL w G es.flatten (nu ν fl) (ju J fl) olds) (hx : RelL w G xs.flatten (nu ν fl) (ju J fl) news) (h1 : ∀ v ∈ olds, v.oneCell' = true) :
    ∃ u w' ν', (Builtin.append_ #[t, tx] ty #[.slice base sLen sCap, x]).run P w = .ok u w' ∧ Left w G J U N ν h at_ s ⟨.sl at_ i.size 0 (sLen + xs.length) none, ups, [some (.row i.size (es ++ xs) fl)], s⟩ u w' ν' := by
  have hrun := run_append_grow_src w t tx ty e i z ht hi hz base sLen sCap olds hold x xs.length news hs hg (by omega) (growslice_fits hg (by omega))
  have Sr' : SR w.drew G J U N ν h' := (Sr.drew (w' := w.drew) rfl).less hless hd
  have hf' : ν.φ at_ = none := hf
  have hrel : RelL w G (es ++ xs).flatten (nu ν fl) (ju J fl) (olds ++ news) := by rw [List.flatten_append]; exact RelL_append ho hx
  have hrel' : RelL w.drew G (es ++ xs).flatten (nu ν fl) (ju J fl) (olds ++ news) := RelL_mono (w := w) (w' := w.drew) (fun _ h => h) (fun _ _ => rfl) (fun _ => Nat.le_refl _) _ (Names.le_refl _) (fun _ h => .inl h) (fun _ _ => rfl) hrel
  obtain ⟨s1, e1⟩ := sr_new Sr' hf' (es := es ++ xs) (sz := i.size) (fl := fl) (vs := olds ++ news) (cells := (olds ++ news).toArray ++ Builtin.zeroCells z.cells (grownCap w (sLen + xs.length) sCap e - (sLen + xs.length))) (elem := e)
    hlen hrel' (fun v hv => (List.mem_append.1 hv).elim (h1 v) (hs.one v)) (by simp [List.append_assoc])
  have hge := grownCap_ge w (sLen + xs.length) sCap e
  refine ⟨_, _, ν.with at_ w.heap.size, hrun, ⟨rfl, ?_, Names.with_le (.inl hf), rfl, ?_, ?_, ?_⟩⟩
  · rw [hups']; exact s1
  · simp only [Rel]
    refine ⟨w.heap.size, 0, _, Names.with_at .., rfl, hge, by simp, by simp, ?_⟩
    have hsz := szOf_at (alloc_heap_new w.drew (.cells ((olds ++ news).toArray ++ Builtin.zeroCells z.cells (grownCap w (sLen + xs.length) sCap e - (sLen + xs.length))) e))
    have hol : (olds ++ news).length = (sLen + xs.length) * i.size := by rw [← RelL_length hrel, flat_len hlen, List.length_append, hes]
    refine Nat.le_trans ?_ (Nat.le_of_eq hsz.symm)
    rw [Array.size_append, List.size_toArray, hol, size_zeroCells, hzl, ← Nat.add_mul, Nat.zero_add]
    exact Nat.mul_le_mul_right _ (by omega)
  · show Ext w _ G G U U N N _ (Own _ (hset (hups h ups) at_ _))
    rw [hups']
    exact (Ext.drewKill w G U N ν h (fun c ⟨i, B, a, b⟩ => ⟨i, B, hless i B a, b⟩)).trans e1
  · intro j hj
    by_cases e : j = at_
    · subst e; simp
    · exact absurd (Names.with_other _ _ _ e) hj

/-- append. -/
theorem append_left {C : Cfg} (Sr : SR w G J U N ν h) {S : Type} {s : S} {H : Option (Hd S)} {call : CallT} {look : Nat → Option Blk} (hl : ∀ i B, look i = some B → hget h i = some B) {at_ : Nat}
    {t tx ty e e' : TypeId} {i : TypeInfo} {z : Value} (ht : P.underlying t = some (.slice e)) (hk : P.underlying tx = some (.slice e')) (hi : P.info? e = some i) (hz : i.zero = some z) (hzl : z.cells.size = i.size)
    {a x : AV} {va vx : Value} (ha : Rel w G a ν J va) (hx : Rel w G x ν J vx) {r : Res S} (hf : r.news ≠ [] → ν.φ at_ = none) (hr : act C call H at_ look s (.append a x i.size i.bytes) = some r) :
    ∃ u w' ν', (Builtin.append_ #[t, tx] ty #[va, vx]).run P w = .ok u w' ∧ Left w G J U N ν h at_ s r u w' ν' := by
  simp only [act] at hr
  split at hr
  · cases hr
  rename_i xs fx hxs
  obtain ⟨news, hsrc, hnews, hxl, -⟩ := contents_src Sr hl hx hxs hk (P := P)
  have nothing : xs.isEmpty = true → ∀ {base sLen sCap}, sLen ≤ sCap → (Builtin.append_ #[t, tx] ty #[.slice base sLen sCap, vx]).run P w = .ok (.slice base sLen sCap) w := by
    intro he base sLen sCap hle
    have : xs = [] := by simpa using he
    subst this
    simp only [List.flatten_nil, RelL] at hnews
    subst hnews
    exact run_append_nothing w t tx ty e i ht hi base sLen sCap hle vx hsrc
  cases a <;> simp only [reduceCtorEq] at hr
  case nils =>
    simp only [Rel] at ha; subst ha
    split at hr
    · rename_i he
      cases hr
      exact ⟨_, w, ν, nothing he (Nat.le_refl _), left_same Sr (by simp only [Rel])⟩
    · rename_i he
      split at hr
      case isFalse => cases hr
      rename_i hb
      cases hr
      have hf := hf (by simp)
      have := grow_left Sr (s := s) (P := P) (ups := []) rfl (fun _ _ h => h) (Nat.le_refl _) hf (ty := ty) ht hi hz hzl (base := none) (sLen := 0) (sCap := 0) (olds := []) (by simpa using run_firstCells_none (P := P) w.drew i.size 0 0 0) (es := []) hsrc (fl := fx)
        (by have : 0 < xs.length := by (rw [List.length_pos_iff]; simpa using he)
            omega) (by omega) (by simpa using hb.2.1) rfl (by simpa using hxl) (by simpa using RelL_nil) hnews (by simp)
      simpa using this
  case ro kd c0 sr es =>
    simp only [Rel] at ha
    rcases ha with ⟨rfl, ad, cp, rfl, hc0⟩ | ⟨b, o, cap, rfl, hcap, hc0, hloc, hm⟩
    · split at hr
      · rename_i he
        cases hr
        exact ⟨_, w, ν, nothing he (Nat.zero_le _), left_same Sr (by simp only [Rel]; exact .inl ⟨by trivial, ad, cp, rfl, hc0⟩)⟩
      · rename_i he
        split at hr
        case isFalse => cases hr
        rename_i hb
        cases hr
        have hf := hf (by simp)
        simp only [Bool.and_eq_true, decide_eq_true_eq] at hb
        obtain ⟨hb0, rfl, hb1, hb2, hb3⟩ := hb
        have := hc0 hb0
        subst this
        have := grow_left Sr (s := s) (P := P) (ups := []) rfl (fun _ _ h => h) (Nat.le_refl _) hf (ty := ty) ht hi hz hzl (base := ad) (sLen := 0) (sCap := 0) (olds := []) (by simpa using (src_zero (w := w) (sz := i.size) (c := 0) hk ad).cellsD) (es := []) hsrc (fl := fx && !(decide (kd = .n)))
          (by have : 0 < xs.length := by (rw [List.length_pos_iff]; simpa using he)
              omega) (by simpa using hb1) (by simpa using hb2) rfl (by simpa using hxl) (by simpa using RelL_nil) (RelL_flag and_fst hnews) (by simp)
        simpa using this
    split at hr
    · rename_i he
      cases hr
      exact ⟨_, w, ν, nothing he hcap, left_same Sr (by simp only [Rel]; exact .inr ⟨b, o, cap, rfl, hcap, hc0, hloc, hm⟩)⟩
    · rename_i he
      split at hr
      case isFalse => cases hr
      rename_i hb
      cases hr
      have hf := hf (by simp)
      simp only [Bool.and_eq_true, decide_eq_true_eq] at hb
      obtain ⟨hb0, rfl, hb1, hb2, hb3⟩ := hb
      have hcape := hc0 hb0
      obtain ⟨hlen, hflat⟩ := MemE_flat hm
      obtain ⟨olds, hso, holds, hfo⟩ := slice_src (w := w) (P := P) hk hflat (flat_len hlen) (c := cap)
      have hold' : (Builtin.firstCells i.size es.length (.slice (some ⟨b, o, none⟩) es.length cap)).run P w.drew = .ok olds.toArray w.drew := hso.cellsD
      have hrelo : RelL w G es.flatten (nu ν (fx && !(decide (kd = .n)))) (ju J (fx && !(decide (kd = .n)))) olds := by
        cases kd with
        | n => 
          simp only [decide_true, Bool.not_true, Bool.and_false]
          exact RelL_mono (fun _ h => h) (fun _ _ => rfl) (fun _ => Nat.le_refl _) _ (Names.none_le _) (fun _ h => .inl h) (fun _ _ => rfl) holds
        | g => exact RelL_flag (f := true) (fun _ => rfl) holds
        | b => exact RelL_flag (f := true) (fun _ => rfl) holds
      exact grow_left Sr (s := s) (P := P) (ups := []) rfl (fun _ _ h => h) (Nat.le_refl _) hf (ty := ty) ht hi hz hzl hold' hsrc
        (by have : 0 < xs.length := by (rw [List.length_pos_iff]; simpa using he)
            omega) hb1 hb2 rfl (fun e he => (List.mem_append.1 he).elim (hlen e) (hxl e)) hrelo (RelL_flag and_fst hnews) hso.one
  case sl j sj lo n cap =>
    simp only [Rel] at ha
    obtain ⟨b, o, c, hφ, rfl, hn, ho, hcap, hroom⟩ := ha
    split at hr
    · rename_i he
      cases hr
      exact ⟨_, w, ν, nothing he hn, left_same Sr (by simp only [Rel]; exact ⟨b, o, c, hφ, rfl, hn, ho, hcap, hroom⟩)⟩
    · rename_i he
      split at hr
      case h_2 => cases hr
      rename_i s'' es flat hlk
      split at hr
      case isFalse => cases hr
      rename_i hb
      obtain ⟨rfl, rfl, rfl, hb1, hb2, hb3, hb4⟩ := hb
      cases hr
      have hf := hf (by simp)
      have ho0 : o = 0 := by have := ho (.inr rfl); simpa using this
      subst ho0
      have hhg := hl _ _ hlk
      obtain ⟨b', hb', hB, hG, hJ, hN, hown⟩ := sr_own Sr hhg
      rw [hφ] at hb'; cases hb'
      obtain ⟨⟨cells, elem, hc, hfit⟩, hm⟩ := hB
      obtain ⟨hlen, hflat⟩ := MemE_flat hm
      obtain ⟨hrow, hone⟩ := row_MemL hc hflat
      have hfl := flat_len hlen
      have hszb := szOf_at hc
      have hlen' : ∀ e ∈ es.take n ++ xs, e.length = i.size := fun e he => (List.mem_append.1 he).elim (fun h => hlen e (List.mem_of_mem_take h)) (hxl e)
      have hnl : news.length = xs.length * i.size := hsrc.newsLen
      have hns : n * i.size ≤ es.length * i.size := Nat.mul_le_mul_right _ hb1
      have hrow1 : RelL w G (es.take n).flatten (nu ν (flat && fx)) (ju J (flat && fx)) ((cells.toList.take es.flatten.length).take (n * i.size)) := by
        rw [flat_take hlen]
        exact RelL_take _ (RelL_flag and_fst hrow)
      have hnews1 : RelL w G xs.flatten (nu ν (flat && fx)) (ju J (flat && fx)) news := RelL_flag and_snd hnews
      have etake : (cells.toList.take es.flatten.length).take (n * i.size) = cells.toList.take (n * i.size) := by
        rw [List.take_take, Nat.min_eq_left (by rw [hfl]; exact hns)]
      rw [etake] at hrow1
      have hone1 : ∀ v ∈ cells.toList.take (n * i.size), v.oneCell' = true := fun v hv => hone v (by rw [← etake] at hv; exact List.mem_of_mem_take hv)
      by_cases hcc : n + xs.length ≤ c
      · have hfit2 : 0 + n * i.size + news.length ≤ cells.size := by
          rw [hszb] at hroom
          have : (n + xs.length) * i.size ≤ c * i.size := Nat.mul_le_mul_right _ hcc
          rw [Nat.add_mul] at this
          omega
        have hrun := run_append_room_row (P := P) w t tx ty e i ht hi b 0 n c vx xs.length news hsrc hc hcc hfit2
        simp only [Nat.zero_add] at hrun hfit2
        obtain ⟨s1, e1⟩ := sr_over Sr hhg hφ hf hc (es := es.take n ++ xs) (fl := flat && fx) (vs := cells.toList.take (n * i.size) ++ news)
          (cells := (cells.toList.take (n * i.size) ++ news ++ cells.toList.drop (n * i.size + news.length)).toArray) hlen' (by rw [List.flatten_append]; exact RelL_append hrow1 hnews1)
          (fun v hv => (List.mem_append.1 hv).elim (hone1 v) (hsrc.one v)) (by simp [List.append_assoc]) (sz_setRow hc (by simp; omega))
        refine ⟨_, _, ν.with at_ b, hrun, ⟨rfl, s1, Names.with_le (.inl hf), rfl, ?_, e1, ?_⟩⟩
        · simp only [Rel]
          exact ⟨b, 0, c, Names.with_at .., rfl, hcc, (fun _ => (Nat.zero_mul _).symm), (fun _ h => by cases h), Nat.le_trans hroom (e1.sz b)⟩
        · intro k hk'
          by_cases e : k = at_
          · subst e; simp
          · exact absurd (Names.with_other _ _ _ e) hk'
      · have hold : (Builtin.firstCells i.size n (.slice (some ⟨b, 0, none⟩) n c)).run P w.drew = .ok (cells.toList.take (n * i.size)).toArray w.drew := by
          refine run_firstCells_some _ _ _ _ _ _ _ ?_ fun q u hq => ?_
          · rw [List.length_take, Array.length_toList]; exact Nat.min_eq_left (by omega)
          · rw [add_none]
            have hq' : cells[q]? = some u := by
              rw [List.getElem?_take] at hq
              split at hq
              · simpa using hq
              · cases hq
            show w.cell? _ = _
            simp [World.cell?, hc, hq']
        exact grow_left Sr (s := s) (P := P) (ups := [(j, none)]) (h' := hset h j none) rfl (fun k B e => by rw [hget_hset] at e; split at e; cases e; exact e) (by rw [length_hset]; exact Nat.le_max_left _ _) hf (ty := ty) ht hi hz hzl hold hsrc
          (by omega) hb2 hb3 (by rw [List.length_take]; exact Nat.min_eq_left hb1) hlen' hrow1 hnews1 hone1

theorem run_copy_general (w : World) (dT sT ty elem : TypeId) (i : TypeInfo) (hu : P.underlying dT = some (.slice elem)) (hi : P.info? elem = some i) {d : Option Addr} {dLen dCap n k : Nat} {x : Value} {cs : List Value}
    (hx : ∀ w' : World, (Builtin.lenOf x).run P w' = .ok n w') (hk : k = min n dLen) (hc : (Builtin.firstCells i.size k x).run P w = .ok cs.toArray w) {w' : World}
    (hs : ∀ a, d = some a → (storeCells a cs).run P w = .ok () w') (hd : d = none → w' = w) :
    (Builtin.copy_ #[dT, sT] ty #[.slice d dLen dCap, x]).run P w = .ok (goInt k) w' := by
  have hk' : Nat.min n dLen = k := hk.symm
  cases d with
  | none => simp [Builtin.copy_, run_underlying hu, hx, sizeOf, typeInfo, hi, hk', hc, hd rfl]
  | some a => simp [Builtin.copy_, run_underlying hu, hx, sizeOf, typeInfo, hi, hk', hc, hs a rfl]

/-- copy. -/
theorem copy_left {C : Cfg} (Sr : SR w G J U N ν h) {S : Type} {s : S} {H : Option (Hd S)} {call : CallT} {look : Nat → Option Blk} (hl : ∀ i B, look i = some B → hget h i = some B) {at_ : Nat}
    {t tx ty e e' : TypeId} {i : TypeInfo} (ht : P.underlying t = some (.slice e)) (hk : P.underlying tx = some (.slice e')) (hi : P.info? e = some i)
    {d x : AV} {vd vx : Value} (hd : Rel w G d ν J vd) (hx : Rel w G x ν J vx) {r : Res S} (hr : act C call H at_ look s (.copy d x i.size) = some r) :
    ∃ u w', (Builtin.copy_ #[t, tx] ty #[vd, vx]).run P w = .ok u w' ∧ Left w G J U N ν h at_ s r u w' ν := by
  simp only [act] at hr
  split at hr
  · cases hr
  rename_i xs fx hxs
  obtain ⟨news, hsrc, hnews, hxl, hfirst⟩ := contents_src Sr hl hx hxs hk (P := P)
  cases d <;> simp only [reduceCtorEq] at hr
  case nils =>
    cases hr
    simp only [Rel] at hd; subst hd
    refine ⟨_, w, run_copy_general w t tx ty e i ht hi hsrc.len (k := 0) (by simp) (cs := []) (by simpa using hfirst 0 (Nat.zero_le _)) (fun a h => by cases h) (fun _ => rfl), left_same Sr (by simp only [Rel]; rfl)⟩
  case sl j sj lo n cap =>
    simp only [Rel] at hd
    obtain ⟨b, o, c, hφ, rfl, hn, ho, hcap, hroom⟩ := hd
    split at hr
    case h_2 => cases hr
    rename_i s'' es flat hlk
    split at hr
    case isFalse => cases hr
    rename_i hb
    obtain ⟨rfl, rfl, hle⟩ := hb
    cases hr
    have hhg := hl _ _ hlk
    obtain ⟨b', hb', hB, -⟩ := sr_own Sr hhg
    rw [hφ] at hb'; cases hb'
    obtain ⟨⟨cells, elem, hc, hfit⟩, hm⟩ := hB
    obtain ⟨hlen, hflat⟩ := MemE_flat hm
    obtain ⟨hrow, hone⟩ := row_MemL hc hflat
    have hfl := flat_len hlen
    have hmin : min xs.length n ≤ xs.length := Nat.min_le_left _ _
    have hminn : min xs.length n ≤ n := Nat.min_le_right _ _
    generalize hk0 : min xs.length n = k at *
    have hnl : news.length = xs.length * i.size := hsrc.newsLen
    have hkl : (news.take (k * i.size)).length = k * i.size := by
      rw [List.length_take, hnl]; exact Nat.min_eq_left (Nat.mul_le_mul_right _ hmin)
    have hrow1 : RelL w G es.flatten (nu ν (flat && fx)) (ju J (flat && fx)) (cells.toList.take es.flatten.length) := RelL_flag and_fst hrow
    have hnews1 : RelL w G xs.flatten (nu ν (flat && fx)) (ju J (flat && fx)) news := RelL_flag and_snd hnews
    have hlok : lo * i.size + k * i.size ≤ es.length * i.size := by rw [← Nat.add_mul]; exact Nat.mul_le_mul_right _ (by omega)
    have hrel : RelL w G (es.take lo ++ xs.take k ++ es.drop (lo + k)).flatten (nu ν (flat && fx)) (ju J (flat && fx))
        ((cells.toList.take es.flatten.length).take (lo * i.size) ++ news.take (k * i.size) ++ (cells.toList.take es.flatten.length).drop ((lo + k) * i.size)) := by
      rw [List.flatten_append, List.flatten_append, flat_take hlen, flat_take hxl, flat_drop hlen]
      exact RelL_append (RelL_append (RelL_take _ hrow1) (RelL_take _ hnews1)) (RelL_drop _ hrow1)
    have hlen' : ∀ e ∈ es.take lo ++ xs.take k ++ es.drop (lo + k), e.length = i.size := by
      intro e he
      simp only [List.mem_append] at he
      rcases he with (he | he) | he
      · exact hlen e (List.mem_of_mem_take he)
      · exact hxl e (List.mem_of_mem_take he)
      · exact hlen e (List.mem_of_mem_drop he)
    have hone1 : ∀ v ∈ (cells.toList.take es.flatten.length).take (lo * i.size) ++ news.take (k * i.size) ++ (cells.toList.take es.flatten.length).drop ((lo + k) * i.size), v.oneCell' = true := by
      intro v hv
      simp only [List.mem_append] at hv
      rcases hv with (hv | hv) | hv
      · exact hone v (List.mem_of_mem_take hv)
      · exact hsrc.one v (List.mem_of_mem_take hv)
      · exact hone v (List.mem_of_mem_drop hv)
    have etake : (cells.toList.take es.flatten.length).take (lo * i.size) = cells.toList.take (lo * i.size) := by
      rw [List.take_take, Nat.min_eq_left (by rw [hfl]; omega)]
    obtain ⟨s1, e1⟩ := sr_set Sr hhg hφ hc (fl := flat && fx) (cells := (cells.toList.take (lo * i.size) ++ news.take (k * i.size) ++ cells.toList.drop (lo * i.size + (news.take (k * i.size)).length)).toArray) hlen' hrel hone1
      (by
        rw [etake, hkl, ← Nat.add_mul]
        simp only [List.append_assoc]
        refine (List.prefix_append_right_inj _).2 ((List.prefix_append_right_inj _).2 ?_)
        rw [List.drop_take]
        exact List.take_prefix _ _)
      (sz_setRow hc (by simp; omega))
    have hstore : (storeCells ⟨b, o, none⟩ (news.take (k * i.size))).run P w = .ok () (w.setRow b (cells.toList.take (lo * i.size) ++ news.take (k * i.size) ++ cells.toList.drop (lo * i.size + (news.take (k * i.size)).length)).toArray) := by
      by_cases hn0 : 0 < n
      · have hst := run_storeCells_at P b o elem (news.take (k * i.size)) 0 cells w hc (by rw [hkl, ho (.inl hn0)]; omega) (fun v hv => hsrc.one v (List.mem_of_mem_take hv))
        rw [Nat.add_zero, ho (.inl hn0)] at hst
        rw [ho (.inl hn0)]
        exact hst
      · have hk1 : k = 0 := by omega
        subst hk1
        simp only [Nat.zero_mul, List.take_zero, List.append_nil, List.length_nil, Nat.add_zero, List.take_append_drop]
        rw [Array.toArray_toList, setRow_self w b cells elem (0, 0) hc]
        simp [storeCells]
    refine ⟨_, _, run_copy_general w t tx ty e i ht hi hsrc.len hk0.symm (hfirst k hmin) (fun a ha => by cases ha; exact hstore) (fun h => by cases h), left_upd Sr s1 e1 (by simp only [Rel]; rfl)⟩
end
end Go.Lite
