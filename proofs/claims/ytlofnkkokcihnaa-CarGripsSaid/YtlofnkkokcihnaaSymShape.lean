import Derived.Test.YtlofnkkokcihnaaSymFun
namespace Go.Lite

/-! ### Shapes: what is known of a value; its data are told apart from it -/
inductive SK where
  | any
  | und
  | k (k : K)
  | agg (cs : List SK)
  | tup (cs : List SK)
  | eptr (cs : List SK)
  | ptr (i s k j : Nat)
  | sl (i s : Nat)
  | fn (f : FuncId) (a c : List SK)
  | nilf
  | nilp
  | nils
inductive BK where
  | none
  | box (cs : List SK)
  | row (ks : List K)
  | junk

def fitsK : K → SV → Option D
  | .int k, .int k' n => if k = k' then some (.i n) else none
  | .bool, .bool b => some (.b b)
  | .bool, .kb b => some (.b b)
  | .ro ks, .ro _ ks' l => if keqs ks ks' then some (.l l) else none
  | .ro _, .nils => some (.l [])
  | _, _ => none
mutual
def fitsV : SK → SV → Option (List D)
  | .any, v => match v with
    | .any => some []
    | _ => none
  | .und, v => match v with
    | .und => some []
    | _ => none
  | .k k, v => match fitsK k v with
    | some d => some [d]
    | none => none
  | .agg cs, v => match v with
    | .agg vs => fitsVs cs vs
    | _ => none
  | .tup cs, v => match v with
    | .tup vs => fitsVs cs vs
    | _ => none
  | .eptr cs, v => match v with
    | .eptr vs => fitsVs cs vs
    | _ => none
  | .ptr i s k j, v => match v with
    | .ptr i' s' k' j' => if i = i' ∧ s = s' ∧ k = k' ∧ j = j' then some [] else none
    | _ => none
  | .sl i s, v => match v with
    | .sl i' s' n => if i = i' ∧ s = s' then some [.i n] else none
    | _ => none
  | .fn f a c, v => match v with
    | .fn (.func f') a' c' => if f = f' then (match fitsVs a a', fitsVs c c' with
      | some x, some y => some (x ++ y)
      | _, _ => none) else none
    | _ => none
  | .nilf, v => match v with
    | .nilf => some []
    | _ => none
  | .nilp, v => match v with
    | .nilp => some []
    | _ => none
  | .nils, v => match v with
    | .nils => some []
    | _ => none
def fitsVs : List SK → List SV → Option (List D)
  | [], vs => match vs with
    | [] => some []
    | _ => none
  | c :: cs, vs => match vs with
    | [] => none
    | v :: vs => match fitsV c v, fitsVs cs vs with
      | some x, some y => some (x ++ y)
      | _, _ => none
end
mutual
/-- A value of a shape with data (and the data that are left). -/
def headV : SK → List D → SV × List D
  | .any, ds => (.any, ds)
  | .und, ds => (.und, ds)
  | .k k, ds => (dec k (ds.headD default), ds.tail)
  | .agg cs, ds => (.agg (headVs cs ds).1, (headVs cs ds).2)
  | .tup cs, ds => (.tup (headVs cs ds).1, (headVs cs ds).2)
  | .eptr cs, ds => (.eptr (headVs cs ds).1, (headVs cs ds).2)
  | .ptr i s k j, ds => (.ptr i s k j, ds)
  | .sl i s, ds => (.sl i s (ds.headD default).I.toNat, ds.tail)
  | .fn f a c, ds => (.fn (.func f) (headVs a ds).1 (headVs c (headVs a ds).2).1, (headVs c (headVs a ds).2).2)
  | .nilf, ds => (.nilf, ds)
  | .nilp, ds => (.nilp, ds)
  | .nils, ds => (.nils, ds)
def headVs : List SK → List D → List SV × List D
  | [], ds => ([], ds)
  | c :: cs, ds => ((headV c ds).1 :: (headVs cs (headV c ds).2).1, (headVs cs (headV c ds).2).2)
end
def fitsB : BK → Option SB → Option (List D)
  | .none, none => some []
  | .box cs, some (.box vs) => fitsVs cs vs
  | .row ks, some (.row ks' l) => if keqs ks ks' then some [.l l] else none
  | .junk, some .junk => some []
  | _, _ => none
def fitsH : List BK → SHeap → Option (List D)
  | [], h => match h with
    | [] => some []
    | _ => none
  | b :: bs, h => match h with
    | [] => none
    | o :: os => match fitsB b o, fitsH bs os with
      | some x, some y => some (x ++ y)
      | _, _ => none
def headB : BK → List D → Option SB × List D
  | .none, ds => (none, ds)
  | .box cs, ds => (some (.box (headVs cs ds).1), (headVs cs ds).2)
  | .row ks, ds => (some (.row ks (ds.headD default).L), ds.tail)
  | .junk, ds => (some .junk, ds)
def headH : List BK → List D → SHeap × List D
  | [], ds => ([], ds)
  | b :: bs, ds => ((headB b ds).1 :: (headH bs (headB b ds).2).1, (headH bs (headB b ds).2).2)

theorem fitsK_sim {k : K} {v : SV} {d : D} {a : AV} (h : fitsK k v = some d) (hv : VR v a) : VR (dec k d) a := by
  unfold fitsK at h
  split at h
  · split at h
    · rename_i e; subst e; cases h; simpa only [dec, D.I, VR] using hv
    · cases h
  · cases h; simpa only [dec, D.B, VR] using hv
  · cases h; simpa only [dec, D.B, VR] using hv
  · split at h
    · rename_i e
      cases h
      have := keqs_eq _ _ e
      subst this
      simp only [dec, D.L, VR] at hv ⊢
      rcases hv with hv | ⟨kd, c0', es, h1, _, h2⟩
      · exact .inl hv
      · exact .inr ⟨kd, c0', es, h1, fun h => (by cases h), h2⟩
    · cases h
  · cases h
    simp only [dec, D.L, VR] at hv ⊢
    exact .inl ⟨hv, by trivial⟩
  · cases h
mutual
theorem fitsV_sim : ∀ (sk : SK) {v : SV} {ds : List D} {a : AV} (r : List D), fitsV sk v = some ds → VR v a → VR (headV sk (ds ++ r)).1 a ∧ (headV sk (ds ++ r)).2 = r
  | .any, v, ds, a, r, h, hv => by
    simp only [fitsV] at h
    split at h
    · cases h; simp only [headV, List.nil_append]; exact ⟨hv, by trivial⟩
    · cases h
  | .und, v, ds, a, r, h, hv => by
    simp only [fitsV] at h
    split at h
    · cases h; simp only [headV, List.nil_append]; exact ⟨hv, by trivial⟩
    · cases h
  | .nilf, v, ds, a, r, h, hv => by
    simp only [fitsV] at h
    split at h
    · cases h; simp only [headV, List.nil_append]; exact ⟨hv, by trivial⟩
    · cases h
  | .nilp, v, ds, a, r, h, hv => by
    simp only [fitsV] at h
    split at h
    · cases h; simp only [headV, List.nil_append]; exact ⟨hv, by trivial⟩
    · cases h
  | .nils, v, ds, a, r, h, hv => by
    simp only [fitsV] at h
    split at h
    · cases h; simp only [headV, List.nil_append]; exact ⟨hv, by trivial⟩
    · cases h
  | .k k, v, ds, a, r, h, hv => by
    simp only [fitsV] at h
    split at h
    · rename_i d hd
      cases h
      simp only [headV, List.cons_append, List.nil_append, List.headD_cons, List.tail_cons]
      exact ⟨fitsK_sim hd hv, by trivial⟩
    · cases h
  | .agg cs, v, ds, a, r, h, hv => by
    simp only [fitsV] at h
    split at h
    · simp only [VR] at hv
      obtain ⟨us, rfl, hv⟩ := hv
      obtain ⟨h1, h2⟩ := fitsVs_sim cs r h hv
      simp only [headV, VR]
      exact ⟨⟨_, rfl, h1⟩, h2⟩
    · cases h
  | .tup cs, v, ds, a, r, h, hv => by
    simp only [fitsV] at h
    split at h
    · simp only [VR] at hv
      obtain ⟨us, rfl, hv⟩ := hv
      obtain ⟨h1, h2⟩ := fitsVs_sim cs r h hv
      simp only [headV, VR]
      exact ⟨⟨_, rfl, h1⟩, h2⟩
    · cases h
  | .eptr cs, v, ds, a, r, h, hv => by
    simp only [fitsV] at h
    split at h
    · simp only [VR] at hv
      obtain ⟨kd, us, rfl, hv⟩ := hv
      obtain ⟨h1, h2⟩ := fitsVs_sim cs r h hv
      simp only [headV, VR]
      exact ⟨⟨_, _, rfl, h1⟩, h2⟩
    · cases h
  | .ptr i s k j, v, ds, a, r, h, hv => by
    simp only [fitsV] at h
    split at h
    · split at h
      · rename_i e
        obtain ⟨rfl, rfl, rfl, rfl⟩ := e
        cases h
        simp only [headV, List.nil_append]
        exact ⟨hv, by trivial⟩
      · cases h
    · cases h
  | .sl i s, v, ds, a, r, h, hv => by
    simp only [fitsV] at h
    split at h
    · split at h
      · rename_i e
        obtain ⟨rfl, rfl⟩ := e
        cases h
        simp only [headV, List.cons_append, List.nil_append, List.headD_cons, List.tail_cons, D.I, Int.toNat_natCast]
        exact ⟨hv, by trivial⟩
      · cases h
    · cases h
  | .fn f x y, v, ds, a, r, h, hv => by
    simp only [fitsV] at h
    split at h
    · split at h
      · rename_i e
        subst e
        split at h
        · rename_i d1 d2 h1 h2
          cases h
          simp only [VR] at hv
          obtain ⟨us, ws, rfl, hv1, hv2⟩ := hv
          obtain ⟨h3, h4⟩ := fitsVs_sim x (d2 ++ r) h1 hv1
          obtain ⟨h5, h6⟩ := fitsVs_sim y r h2 hv2
          simp only [headV, VR, List.append_assoc, h4]
          exact ⟨⟨_, _, rfl, h3, h5⟩, h6⟩
        · cases h
      · cases h
    · cases h
theorem fitsVs_sim : ∀ (cs : List SK) {vs : List SV} {ds : List D} {as : List AV} (r : List D), fitsVs cs vs = some ds → VRL vs as → VRL (headVs cs (ds ++ r)).1 as ∧ (headVs cs (ds ++ r)).2 = r
  | [], vs, ds, as, r, h, hv => by
    simp only [fitsVs] at h
    split at h
    · cases h; simp only [headVs, List.nil_append]; exact ⟨hv, by trivial⟩
    · cases h
  | c :: cs, vs, ds, as, r, h, hv => by
    simp only [fitsVs] at h
    split at h
    · cases h
    · split at h
      · rename_i d1 d2 h1 h2
        cases h
        simp only [VRL] at hv
        obtain ⟨u, us, rfl, hv1, hv2⟩ := hv
        obtain ⟨h3, h4⟩ := fitsV_sim c (d2 ++ r) h1 hv1
        obtain ⟨h5, h6⟩ := fitsVs_sim cs r h2 hv2
        simp only [headVs, List.append_assoc, h4]
        exact ⟨VRL_cons h3 h5, h6⟩
      · cases h
end
theorem fitsB_sim {b : BK} {o : Option SB} {O : Option Blk} {ds : List D} (r : List D) (h : fitsB b o = some ds) (ho : OR o O) : OR (headB b (ds ++ r)).1 O ∧ (headB b (ds ++ r)).2 = r := by
  unfold fitsB at h
  split at h
  · cases h; exact ⟨ho, rfl⟩
  · rename_i cs vs
    obtain ⟨B, rfl, hr⟩ := OR_some ho
    cases B with
    | map kvs => exact hr.elim
    | row s es fl =>
      simp only [BlkR] at hr
      obtain ⟨us, rfl, rfl, hv, hno⟩ := hr
      obtain ⟨h1, h2⟩ := fitsVs_sim cs r h hv
      simp only [headB, OR, BlkR]
      exact ⟨⟨us, rfl, by rw [VRL_length hv, VRL_length h1], h1, hno⟩, h2⟩
  · split at h
    · rename_i e
      cases h
      have := keqs_eq _ _ e
      subst this
      exact ⟨ho, rfl⟩
    · cases h
  · cases h; exact ⟨ho, rfl⟩
  · cases h
theorem fitsH_sim : ∀ (bs : List BK) {sh : SHeap} {h : Heap} {ds : List D} (r : List D), fitsH bs sh = some ds → HR sh h → HR (headH bs (ds ++ r)).1 h ∧ (headH bs (ds ++ r)).2 = r
  | [], sh, h, ds, r, hf, hh => by
    simp only [fitsH] at hf
    split at hf
    · cases hf; simp only [headH, List.nil_append]; exact ⟨hh, by trivial⟩
    · cases hf
  | b :: bs, sh, h, ds, r, hf, hh => by
    simp only [fitsH] at hf
    split at hf
    · cases hf
    · rename_i o os
      split at hf
      · rename_i d1 d2 h1 h2
        cases hf
        cases h with
        | nil => have := hh.1; simp at this
        | cons O Os =>
          have h0 : OR o O := by simpa [sget, hget] using hh.2 0
          have hrest : HR os Os := ⟨by simpa using hh.1, fun i => by simpa [sget, hget] using hh.2 (i + 1)⟩
          obtain ⟨h3, h4⟩ := fitsB_sim (d2 ++ r) h1 h0
          obtain ⟨h5, h6⟩ := fitsH_sim bs r h2 hrest
          simp only [headH, List.append_assoc, h4]
          refine ⟨⟨by simp [h5.1], fun i => ?_⟩, h6⟩
          cases i with
          | zero => simpa [sget, hget] using h3
          | succ i => simpa [sget, hget] using h5.2 i
      · cases hf

/-! ### States -/
structure Shp where
  tmps : List SK
  h : List BK
def fitsS (s : Shp) (σ : SSt) : Option (List D) := match fitsVs s.tmps σ.tmps, fitsH s.h σ.h with
  | some x, some y => some (x ++ y)
  | _, _ => none
def headS (s : Shp) (ds : List D) : SSt := { tmps := (headVs s.tmps ds).1, h := (headH s.h (headVs s.tmps ds).2).1 }
theorem fitsS_sim {s : Shp} {σ : SSt} {ds : List D} {τ : St} (h : fitsS s σ = some ds) (hr : SSR σ τ) : SSR (headS s ds) τ := by
  unfold fitsS at h
  split at h
  · rename_i x y h1 h2
    cases h
    obtain ⟨h3, h4⟩ := fitsVs_sim s.tmps y h1 hr.1
    obtain ⟨h5, h6⟩ := fitsH_sim s.h [] h2 hr.2
    unfold headS
    rw [h4]
    rw [List.append_nil] at h5
    exact ⟨h3, h5⟩
  · cases h
/-- One of several shapes: a number ahead of the data says which, unless there is but one. -/
def fitsFrom : List Shp → Nat → SSt → Option (List D)
  | [], _, _ => none
  | s :: ss, j, σ => match fitsS s σ with
    | some ds => some (.i j :: ds)
    | none => fitsFrom ss (j + 1) σ
def fitsA (ss : List Shp) (σ : SSt) : Option (List D) := match ss with
  | [s] => fitsS s σ
  | ss => fitsFrom ss 0 σ
def headA (ss : List Shp) (ds : List D) : SSt := match ss with
  | [s] => headS s ds
  | ss => headS (ss.getD (ds.headD default).I.toNat ⟨[], []⟩) ds.tail
theorem fitsFrom_sim : ∀ (ss : List Shp) (j : Nat) {σ : SSt} {ds : List D} {τ : St}, fitsFrom ss j σ = some ds → SSR σ τ → ∃ i ds', ds = .i ((j + i : Nat) : Int) :: ds' ∧ SSR (headS (ss.getD i ⟨[], []⟩) ds') τ
  | [], j, σ, ds, τ, h, _ => by cases h
  | s :: ss, j, σ, ds, τ, h, hr => by
    simp only [fitsFrom] at h
    split at h
    · rename_i ds' h'
      cases h
      exact ⟨0, ds', rfl, by simpa using fitsS_sim h' hr⟩
    · obtain ⟨i, ds', h1, h2⟩ := fitsFrom_sim ss (j + 1) h hr
      exact ⟨i + 1, ds', by rw [h1]; congr 2; omega, by simpa using h2⟩
theorem fitsA_sim {ss : List Shp} {σ : SSt} {ds : List D} {τ : St} (h : fitsA ss σ = some ds) (hr : SSR σ τ) : SSR (headA ss ds) τ := by
  unfold fitsA at h
  unfold headA
  split at h
  · exact fitsS_sim h hr
  · rename_i ss' hne
    obtain ⟨i, ds', rfl, h2⟩ := fitsFrom_sim ss 0 h hr
    simpa [D.I] using h2
/-- Slots of which some are known. -/
def slots : Nat → Nat → List (Nat × SK) → List SK
  | 0, _, _ => []
  | n + 1, i, l => (match l.find? (fun p => p.1 == i) with
    | some p => p.2
    | none => .any) :: slots n (i + 1) l

/-! ### Functions -/
structure Sig where
  args : List SK
  res : List (SK × List BK)
def fitsR1 (s : SK × List BK) (r : SV × SHeap) : Option (List D) := match fitsV s.1 r.1, fitsH s.2 r.2 with
  | some x, some y => some (x ++ y)
  | _, _ => none
def headR1 (s : SK × List BK) (ds : List D) : SV × SHeap := ((headV s.1 ds).1, (headH s.2 (headV s.1 ds).2).1)
def fitsRF : List (SK × List BK) → Nat → SV × SHeap → Option (List D)
  | [], _, _ => none
  | s :: ss, j, r => match fitsR1 s r with
    | some ds => some (.i j :: ds)
    | none => fitsRF ss (j + 1) r
def fitsR (ss : List (SK × List BK)) (r : SV × SHeap) : Option (List D) := match ss with
  | [s] => fitsR1 s r
  | ss => fitsRF ss 0 r
def headR (ss : List (SK × List BK)) (ds : List D) : SV × SHeap := match ss with
  | [s] => headR1 s ds
  | ss => headR1 (ss.getD (ds.headD default).I.toNat (.und, [])) ds.tail
theorem fitsR1_sim {s : SK × List BK} {r : SV × SHeap} {ds : List D} {v : AV} {h : Heap} (hf : fitsR1 s r = some ds) (h1 : VR r.1 v) (h2 : HR r.2 h) : VR (headR1 s ds).1 v ∧ HR (headR1 s ds).2 h := by
  unfold fitsR1 at hf
  split at hf
  · rename_i x y e1 e2
    cases hf
    obtain ⟨h6, h7⟩ := fitsV_sim s.1 y e1 h1
    obtain ⟨h8, h9⟩ := fitsH_sim s.2 [] e2 h2
    rw [List.append_nil] at h8
    unfold headR1
    rw [h7]
    exact ⟨h6, h8⟩
  · cases hf
theorem fitsRF_sim : ∀ (ss : List (SK × List BK)) (j : Nat) {r : SV × SHeap} {ds : List D} {v : AV} {h : Heap}, fitsRF ss j r = some ds → VR r.1 v → HR r.2 h →
    ∃ i ds', ds = .i ((j + i : Nat) : Int) :: ds' ∧ VR (headR1 (ss.getD i (.und, [])) ds').1 v ∧ HR (headR1 (ss.getD i (.und, [])) ds').2 h
  | [], j, r, ds, v, h, hf, _, _ => by cases hf
  | s :: ss, j, r, ds, v, h, hf, h1, h2 => by
    simp only [fitsRF] at hf
    split at hf
    · rename_i ds' h'
      cases hf
      exact ⟨0, ds', rfl, by simpa using fitsR1_sim h' h1 h2⟩
    · obtain ⟨i, ds', e, h3⟩ := fitsRF_sim ss (j + 1) hf h1 h2
      exact ⟨i + 1, ds', by rw [e]; congr 2; omega, by simpa using h3⟩
theorem fitsR_sim {ss : List (SK × List BK)} {r : SV × SHeap} {ds : List D} {v : AV} {h : Heap} (hf : fitsR ss r = some ds) (h1 : VR r.1 v) (h2 : HR r.2 h) : VR (headR ss ds).1 v ∧ HR (headR ss ds).2 h := by
  unfold fitsR at hf
  unfold headR
  split at hf
  · exact fitsR1_sim hf h1 h2
  · rename_i ss' hne
    obtain ⟨i, ds', rfl, h3⟩ := fitsRF_sim ss 0 hf h1 h2
    simpa [D.I] using h3
def fnT (C : Cfg) (tab : Tab) (f : FuncId) (s : Sig) (ds : List D) : T (List D) := (callS C tab f (headVs s.args ds).1).bind fun r => T.ofO (fitsR s.res r)
def mkF (s : Sig) (G : List D → T (List D)) : List SV → T (SV × SHeap) := fun args => match fitsVs s.args args with
  | some ds => (G ds).map (headR s.res)
  | none => .fail
theorem fn_ok {C : Cfg} (hC : ∀ t Y, C.ty t = some Y → tyOf C.P t = some Y) {tab : Tab} {n : Nat} (hS : SpOK C tab n) {f : FuncId} {fn : Func} {c : Code} (hfn : C.P.funcs[f]? = some fn) (hbody : fn.body = some c) (hl : LoopsOK C tab n f c)
    {s : Sig} {G : List D → T (List D)} (hG : ∀ ds r, (G ds).run = some r → (fnT C tab f s ds).run = some r) : FnOK C (n + 1) f (mkF s G) := by
  intro args v hb h avs hv
  unfold mkF at h
  split at h
  · rename_i ds hds
    rw [T.run_map, Option.map_eq_some_iff] at h
    obtain ⟨r, hr, he⟩ := h
    have hf := hG ds r hr
    unfold fnT at hf
    rw [T.run_bind, Option.bind_eq_some_iff] at hf
    obtain ⟨⟨v0, h0⟩, hc, hfr⟩ := hf
    rw [T.run_ofO] at hfr
    obtain ⟨h1, h2⟩ := fitsVs_sim s.args [] hds hv
    rw [List.append_nil] at h1
    obtain ⟨v', h', h3, h4, h5⟩ := call_sim hC hS hfn hbody hl _ _ _ hc avs h1
    refine ⟨v', h', h3, ?_⟩
    have := fitsR_sim hfr h4 h5
    rw [he] at this
    exact this
  · cases h

/-! ### Loops -/
structure LSig where
  live : List Nat
  head : List Shp
  exits : List (Ex × List Nat × List Shp)
def exq : Ex → Ex → Bool
  | .normal, .normal => true
  | .exit i, .exit j => i == j
  | .ret, .ret => true
  | _, _ => false
theorem exq_eq {a b : Ex} (h : exq a b = true) : a = b := by cases a <;> cases b <;> simp_all [exq]
def exitOf : List (Ex × List Nat × List Shp) → Ex → Option (List Nat × List Shp)
  | [], _ => none
  | p :: ps, e => if exq p.1 e then some p.2 else exitOf ps e
inductive Rd where
  | again (ds : List D)
  | out (e : Ex) (ds : List D)
def roundT (C : Cfg) (tab : Tab) (f : FuncId) (b : Code) (s : LSig) (ds : List D) : T Rd := (execS C tab f b (headA s.head ds)).bind fun r => match r.1 with
  | .normal => T.ofO ((fitsA s.head (normS 0 s.live r.2)).map .again)
  | e => match exitOf s.exits e with
    | some x => T.ofO ((fitsA x.2 (normS 0 x.1 r.2)).map (.out e))
    | none => .fail
def mkL (s : LSig) (G : List D → T (Ex × List D)) : SSt → T (Ex × SSt) := fun σ => match fitsA s.head (normS 0 s.live σ) with
  | some ds => (G ds).bind fun r => match exitOf s.exits r.1 with
    | some x => .leaf (r.1, headA x.2 r.2)
    | none => .fail
  | none => .fail
/-- The slots that live are as the table has them. -/
def LiveOK (C : Cfg) (f : FuncId) (b : Code) (s : LSig) : Prop := C.ann f (keyOf b) = some s.live ∧ ∀ p ∈ s.exits, match p.1 with
  | .normal => False
  | .exit id => C.annX f (keyOf b) (some id) = some p.2.1
  | .ret => C.annX f (keyOf b) none = some p.2.1
theorem exitOf_mem {l : List (Ex × List Nat × List Shp)} {e : Ex} {x : List Nat × List Shp} (h : exitOf l e = some x) : (e, x) ∈ l := by
  induction l with
  | nil => cases h
  | cons p ps ih =>
    simp only [exitOf] at h
    split at h
    · rename_i he
      cases h
      have := exq_eq he
      subst this
      exact List.mem_cons_self
    · exact List.mem_cons_of_mem _ (ih h)
theorem loop_ok' {C : Cfg} (hC : ∀ t Y, C.ty t = some Y → tyOf C.P t = some Y) {tab : Tab} {n : Nat} (hS : SpOK C tab n) {f : FuncId} {b : Code} (hb : LoopsOK C tab n f b) {s : LSig} (hlv : LiveOK C f b s) {G : List D → T (Ex × List D)} (μ : List D → Nat)
    (round : ∀ ds r, (G ds).run = some r → μ ds < C.fuel ∧ ∃ o, (roundT C tab f b s ds).run = some o ∧ ((∃ ds', o = .again ds' ∧ (G ds').run = some r ∧ μ ds' < μ ds) ∨ o = .out r.1 r.2)) : LoopSim C n f b (mkL s G) := by
  intro σ e σ' h τ hr
  unfold mkL at h
  split at h
  case h_2 => cases h
  rename_i ds hds
  rw [T.run_bind, Option.bind_eq_some_iff] at h
  obtain ⟨⟨e0, r⟩, hG, h⟩ := h
  simp only at h
  split at h
  case h_2 => cases h
  rename_i x hx
  cases h
  have hann : ∀ σ, gcOfS C 0 f b σ = normS 0 s.live σ := fun σ => by unfold gcOfS; rw [hlv.1]
  have hannX : gcX C 0 f b e = norm 0 x.1 := by
    have := hlv.2 _ (exitOf_mem hx)
    unfold gcX
    funext τ
    cases e with
    | normal => exact this.elim
    | exit id => simp only at this ⊢; rw [this]
    | ret => simp only at this ⊢; rw [this]
  have key : ∀ (m : Nat) (ds : List D) (τ : St), (G ds).run = some (e, r) → μ ds < m → SSR (headA s.head ds) (gcOf C 0 f b τ) → ∃ τ', loopA (gcOf C 0 f b) (execA C (callA C n) f 0 (none : Option (Hd Unit)) b) m τ () = some (e, τ', ()) ∧ SSR (headA x.2 r) (gcX C 0 f b e τ') := by
    intro m
    induction m with
    | zero => intro ds τ _ hlt; omega
    | succ m ih =>
      intro ds τ hG hlt hr
      obtain ⟨-, o, ho, hcase⟩ := round ds (e, r) hG
      unfold roundT at ho
      rw [T.run_bind, Option.bind_eq_some_iff] at ho
      obtain ⟨⟨eb, σb⟩, h1, h2⟩ := ho
      obtain ⟨τb, h3, h4⟩ := exec_sim hC hS b hb h1 hr
      cases eb with
      | normal =>
        simp only [T.run_ofO, Option.map_eq_some_iff] at h2
        obtain ⟨ds1, h5, rfl⟩ := h2
        rcases hcase with ⟨ds', h6, h7, h8⟩ | h6
        · cases h6
          obtain ⟨τ', h9, h10⟩ := ih ds1 τb h7 (by omega) (fitsA_sim h5 (by rw [← hann]; exact gcOf_sim h4))
          exact ⟨τ', by simp only [loopA, h3, h9], h10⟩
        · cases h6
      | exit id =>
        simp only at h2
        split at h2
        · rename_i y hy
          rw [T.run_ofO, Option.map_eq_some_iff] at h2
          obtain ⟨ds1, h5, rfl⟩ := h2
          rcases hcase with ⟨ds', h6, _⟩ | h6
          · cases h6
          · cases h6
            rw [hx] at hy; cases hy
            exact ⟨τb, by simp only [loopA, h3], by rw [hannX]; exact fitsA_sim h5 (norm_sim h4)⟩
        · cases h2
      | ret =>
        simp only at h2
        split at h2
        · rename_i y hy
          rw [T.run_ofO, Option.map_eq_some_iff] at h2
          obtain ⟨ds1, h5, rfl⟩ := h2
          rcases hcase with ⟨ds', h6, _⟩ | h6
          · cases h6
          · cases h6
            rw [hx] at hy; cases hy
            exact ⟨τb, by simp only [loopA, h3], by rw [hannX]; exact fitsA_sim h5 (norm_sim h4)⟩
        · cases h2
  obtain ⟨τ', h1, h2⟩ := key C.fuel ds τ hG (round ds _ hG).1 (fitsA_sim hds (by rw [← hann]; exact gcOf_sim hr))
  exact ⟨_, by simp only [execA, h1, Option.map_some], h2⟩

/-- A loop's body, found by its key. -/
def loopAt : Nat → Code → Option Code
  | k, .loop b => if keyOf b = k then some b else loopAt k b
  | k, .seq a b => (loopAt k a).or (loopAt k b)
  | k, .cond _ a b => (loopAt k a).or (loopAt k b)
  | k, .block _ b => loopAt k b
  | k, .scope b => loopAt k b
  | k, .rangeFunc _ _ a b => (loopAt k a).or (loopAt k b)
  | _, _ => none
def bodyAt (P : Program) (f : FuncId) : Code := match P.funcs[f]? with
  | some fn => fn.body.getD .skip
  | none => .skip
def loopOf (P : Program) (f : FuncId) (k : Nat) : Code := (loopAt k (bodyAt P f)).getD .skip
end Go.Lite
