import Derived.Test.YtlofnkkokcihnaaLiteExec
namespace Go.Lite
section
variable {w w' : World} {G G' J U U' N N' : Nat → Prop} {ν ν' : Names} {h nh : Heap} {P : Program}
variable {S : Type} {RS : StRel S} {B : Base} {sd : List (Nat × Obj)} {σ : St} {s : S} {a : Act}

/-- What an activation's state needs. -/
def Need (B : Base) (J U N : Nat → Prop) (O : Nat → Prop) (sd : List (Nat × Obj)) (ds : List Deferred) (b : Nat) : Prop :=
  U b ∨ O b ∨ N b ∨ J b ∨ (b < B.w.heap.size ∧ ¬ B.O b) ∨ (∃ p ∈ sd, p.1 = b) ∨ ∃ d ∈ ds, d = markOf b

/-- It holds on while that stays. -/
theorem Inv1.on (I : Inv1 RS B J sd σ s a w ν G U N) (hRM : RMono RS) (henv : w'.os = w.os ∧ w'.output = w.output) (hsize : w.heap.size ≤ w'.heap.size) (hs : ∀ b, szOf w b ≤ szOf w' b) (hgg : ∀ b, G b → G' b) (hG : ∀ b, G b → w'.heap[b]? = w.heap[b]?)
    (hlt : ∀ b, G' b → b < w'.heap.size) (hk : ∀ b, Need B J U N (Own ν σ.h) sd a.defers b → b < w.heap.size → w'.heap[b]? = w.heap[b]?) (hg : ∀ b, G' b → G b ∨ ¬ Need B J U N (Own ν σ.h) sd a.defers b) :
    Inv1 RS B J sd σ s a w' ν G' U N := by
  have hU : ∀ b, U b → w'.heap[b]? = w.heap[b]? := fun b hb => hk b (.inl hb) (I.sr.nlt b (I.sr.un b hb))
  have hO : ∀ b, Own ν σ.h b → w'.heap[b]? = w.heap[b]? := fun b hb => hk b (.inr (.inl hb)) (I.sr.own_lt hb)
  have hN : ∀ b, N b → w'.heap[b]? = w.heap[b]? := fun b hb => hk b (.inr (.inr (.inl hb))) (I.sr.nlt b hb)
  have hJ : ∀ b, J b → w'.heap[b]? = w.heap[b]? := fun b hb => hk b (.inr (.inr (.inr (.inl hb)))) (I.sr.jlt b hb)
  have side : ∀ n0 r o, (∀ b, r = b → Need B J U N (Own ν σ.h) sd a.defers b) → Side w G J U N (Own ν σ.h) n0 r o → Side w' G' J U N (Own ν σ.h) n0 r o := fun n0 r o hn hsd =>
    ⟨hsd.new, (hk r (hn r rfl) (Array.getElem?_eq_some_iff.1 hsd.at_).1).trans hsd.at_, fun hg' => (hg r hg').elim hsd.g (fun h => h (hn r rfl)), hsd.j, hsd.u, hsd.n, hsd.o⟩
  constructor
  · constructor
    · intro i B' hB
      obtain ⟨b, hb, hr⟩ := I.sr.blk i B' hB
      exact ⟨b, hb, BlkRel_mono hgg hG hs hJ (Names.le_refl _) (hO b (Own_mk hB hb)) hr⟩
    · exact I.sr.inj
    · exact I.sr.dom
    · exact hlt
    · exact fun b hb => Nat.lt_of_lt_of_le (I.sr.jlt b hb) hsize
    · exact fun b hb => Nat.lt_of_lt_of_le (I.sr.nlt b hb) hsize
    · exact fun b hb ho => (hg b hb).elim (fun h => I.sr.gown b h ho) (fun h => h (.inr (.inl ho)))
    · exact I.sr.jown
    · exact I.sr.nown
    · exact fun b hb hu => (hg b hb).elim (fun h => I.sr.gu b h hu) (fun h => h (.inl hu))
    · exact I.sr.ju
    · exact I.sr.un
  · exact RelL_mono hgg hG hs _ (Names.le_refl _) (fun _ h => .inl h) hJ I.ts
  · exact hRM s w w' G G' U N I.rs henv hsize hN hs hgg hG (fun b hb => (hg b hb).imp_right (fun h hn => h (.inr (.inr (.inl hn))))) hlt
  · have E := I.ext
    refine ⟨Nat.le_trans E.size hsize, fun b h1 h2 h3 => ?_, E.own, E.u, E.n, fun b hb => hgg b (E.g b hb), fun b hb => ?_, fun b => Nat.le_trans (E.sz b) (hs b), henv.1.trans E.env.1, henv.2.trans E.env.2⟩
    · exact (hk b (.inr (.inr (.inr (.inr (.inl ⟨h1, h2⟩))))) (Nat.lt_of_lt_of_le h1 E.size)).trans (E.keep b h1 h2 h3)
    · rcases hg b hb with h | h
      · exact E.g' b h
      · by_cases hlt : b < B.w.heap.size
        · by_cases ho : B.O b
          · exact .inr (.inl ho)
          · exact absurd (.inr (.inr (.inr (.inr (.inl ⟨hlt, ho⟩))))) h
        · exact .inr (.inr (.inr (by omega)))
  · exact I.first
  · exact I.y
  · exact I.len
  · exact fun p hp => side _ _ _ (fun b e => .inr (.inr (.inr (.inr (.inr (.inl ⟨p, hp, e⟩)))))) (I.side p hp)
  · exact fun d hd => let ⟨r, e, h⟩ := I.marks d hd; ⟨r, e, side _ r _ (fun b e' => .inr (.inr (.inr (.inr (.inr (.inr ⟨d, hd, e' ▸ e⟩)))))) h⟩
  · exact I.nd
end
end Go.Lite
