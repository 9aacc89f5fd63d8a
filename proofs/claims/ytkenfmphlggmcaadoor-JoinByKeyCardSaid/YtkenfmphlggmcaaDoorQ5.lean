/- The evaluator E: what a call hands back. -/
import Derived.Test.YtkenfmphlggmcaaDoorQ4
import Derived.Defers

section
namespace Go.Ev
open Go
set_option linter.unusedSimpArgs false
set_option linter.unusedVariables false

theorem at_one {β β1 : Bt} (hp : ∀ (o : Nat) (x : Nat × Nat), β[o]? = some (some x) → β1[o]? = some (some x)) {o : Nat} {x y : Nat × Nat} (h : β[o]? = some (some x)) (h1 : β1[o]? = some (some y)) : β[o]? = some (some y) := by
  have := hp _ _ h
  rw [h1] at this
  injection this with this
  injection this with this
  rw [this]
  exact h
mutual
theorem VR.down {Fr Fr1 : Nat → Nat → Prop} {w w1 : World} {β β1 : Bt} (hp : ∀ (o : Nat) (x : Nat × Nat), β[o]? = some (some x) → β1[o]? = some (some x)) : ∀ {e : EV} {v v1 : Value}, VR Fr w β e v → VR Fr1 w1 β1 e v1 → VR Fr1 w1 β e v1
  | _, _, _, .int, h => by cases h; exact .int
  | _, _, _, .bool, h => by cases h; exact .bool
  | _, _, _, .str _, h => by cases h with | str h => exact .str h
  | _, _, _, .nilp, h => by cases h; exact .nilp
  | _, _, _, .nilf, h => by cases h; exact .nilf
  | _, _, _, .nilm, h => by cases h; exact .nilm
  | _, _, _, .ptr h, h1 => by cases h1 with | ptr h1 => exact .ptr (at_one hp h h1)
  | _, _, _, .fp h hc, h1 => by cases h1 with | fp a b => exact .fp a b
  | _, _, _, .fz0 ht hk, h1 => by
    cases h1 with
    | fz0 ht hk => exact .fz0 ht hk
    | fz a b c d e f g => exact .fz a b c d e f (fun o ho => absurd rfl (g o ho).1)
  | _, _, _, .fz h hz hc hl hn ht hk, h1 => by
    cases h1 with
    | fz0 ht hk => exact .fz0 ht hk
    | fz a b c d e f g => exact .fz a b c d e f (fun o ho => ⟨(g o ho).1, at_one hp (hk o ho).2.1 (g o ho).2.1, (g o ho).2.2⟩)
  | _, _, _, .fm _ _ _ _, h1 => by cases h1 with | fm a b c d => exact .fm a b c d
  | _, _, _, .sl h hn hc hm, h1 => by cases h1 with | sl h1 hn1 hc1 hm1 => exact .sl (at_one hp h h1) hn1 hc1 hm1
  | _, _, _, .map h, h1 => by cases h1 with | map h1 => exact .map (at_one hp h h1)
  | _, _, _, .fn ha hb, h1 => by cases h1 with | fn a b => exact .fn (VRs.down hp ha a) (VRs.down hp hb b)
  | _, _, _, .agg h, h1 => by cases h1 with | agg a => exact .agg (VRs.down hp h a)
  | _, _, _, .tup h, h1 => by cases h1 with | tup a => exact .tup (VRs.down hp h a)
  | _, _, _, .undef, h1 => by cases h1; exact .undef
theorem VRs.down {Fr Fr1 : Nat → Nat → Prop} {w w1 : World} {β β1 : Bt} (hp : ∀ (o : Nat) (x : Nat × Nat), β[o]? = some (some x) → β1[o]? = some (some x)) : ∀ {es : List EV} {vs vs1 : List Value}, VRs Fr w β es vs → VRs Fr1 w1 β1 es vs1 → VRs Fr1 w1 β es vs1
  | _, _, _, .nil, h => by cases h; exact .nil
  | _, _, _, .cons h hs, h1 => by cases h1 with | cons a as => exact .cons (VR.down hp h a) (VRs.down hp hs as)
end

section
variable {Fr Fr1 : Nat → Nat → Prop} {w w1 : World} {β β1 : Bt} {H0 H1 : Heap} {W : List Nat}

/-- What is frozen when a call ends: all that its new objects own (but 'ban'). -/
def FrTo (Fr1 : Nat → Nat → Prop) (β1 : Bt) (H1 : Heap) (base : Nat) (ban : Option Nat) (b x : Nat) : Prop := Fr1 b x ∨ ∃ (o s : Nat) (ob : EO), base ≤ o ∧ ban ≠ some o ∧ β1[o]? = some (some (b, s)) ∧ H1[o]? = some ob ∧ ob.owns s x

theorem owns_alive {H : Heap} {o s x : Nat} {ob : EO} (h : H[o]? = some ob) (h2 : ob.owns s x) : alive H o := ⟨ob, h, fun e => by subst e; exact h2⟩
theorem keep_same {F F' : Nat → Nat → Prop} (w : World) : Keep F w w := Keep.refl F w

theorem Ok.trim (hr0 : Rel Fr β H0 w) (hok : Ok Fr β H0 w Fr1 β1 H1 w1) (hg : ∀ o, o < H0.length → H1[o]? = H0[o]?) (ban : Option Nat) :
    Ok Fr β H0 w (FrTo Fr1 β1 H1 H0.length ban) β H0 w1 := by
  have hr1 := hok.rel
  have hold : ∀ (o : Nat) (x : EO), H0[o]? = some x → H1[o]? = some x ∧ o < H0.length := fun o x hx => by
    have hl := (List.getElem?_eq_some_iff.1 hx).1
    exact ⟨by rw [hg o hl]; exact hx, hl⟩
  have hFr : ∀ b x, Fr1 b x → FrTo Fr1 β1 H1 H0.length ban b x := fun b x h => .inl h
  have mono : ∀ {es : List EV} {vs vs1 : List Value}, VRs Fr w β es vs → VRs Fr1 w1 β1 es vs1 → VRs (FrTo Fr1 β1 H1 H0.length ban) w1 β es vs1 := fun h0 h => (h0.down hok.ext h).mono (fun _ _ h => h) hFr (Keep.refl _ _) (Shape.refl _)
  refine ⟨⟨hr0.len, ?_, ?_, ?_, ?_, ?_, ?_, ?_⟩, fun _ _ h => h, fun _ h => h, fun b x h => .inl (hok.fr b x h), hok.stp, fun _ _ h => h, fun _ _ _ h => h, fun b x hb hf => by
    rcases hf with hf | ⟨o, s, ob, _, _, h1, h2, h3⟩
    · exact hok.frn b x hb hf
    · exact .inr (hok.imc b x hb ⟨o, s, ob, h1, h2, h3⟩)⟩
  · intro o cs b s ho hb
    obtain ⟨rc0, t0, fr0, vs0, hh0, hv0, _⟩ := hr0.cells o cs b s ho hb
    obtain ⟨rc, t, fr, vs, hh, hv, hc⟩ := hr1.cells o cs b s (hold o _ ho).1 (hok.ext _ _ hb)
    exact ⟨rc, t, fr, vs, hh, mono hv0 hv, hc⟩
  · intro o es b s ho hb
    obtain ⟨e0, c0, hh0, hk0, hv0⟩ := hr0.maps o es b s ho hb
    obtain ⟨e1, c1, hh, hk, hv⟩ := hr1.maps o es b s (hold o _ ho).1 (hok.ext _ _ hb)
    exact ⟨e1, c1, hh, mono hk0 hk, mono hv0 hv⟩
  · exact fun o m b s ho hb => hr1.tips o m b s (hold o _ ho).1 (hok.ext _ _ hb)
  · rintro o b s hb ⟨x, hx, hn⟩
    exact hr1.live o b s (hok.ext _ _ hb) ⟨x, (hold o _ hx).1, hn⟩
  · rintro b x ⟨o, s, ob, h1, h2, h3⟩ hf
    have h4 := hold o _ h2
    rcases hf with hf | ⟨o', s', ob', hge, _, h5, h6, h7⟩
    · exact hr1.free b x ⟨o, s, ob, hok.ext _ _ h1, h4.1, h3⟩ hf
    · have := hr1.inj o o' b s s' (hok.ext _ _ h1) h5 (owns_alive h4.1 h3) (owns_alive h6 h7)
      omega
  · rintro o o' b s s' h h' ⟨x, hx, hn⟩ ⟨x', hx', hn'⟩
    exact hr1.inj o o' b s s' (hok.ext _ _ h) (hok.ext _ _ h') ⟨x, (hold o _ hx).1, hn⟩ ⟨x', (hold o' _ hx').1, hn'⟩
  · rintro b x (hb | ⟨o, s, ob, _, _, hb, ho, hw⟩)
    · exact hr1.old b x hb
    · exact hr1.live o b s hb (owns_alive ho hw)

theorem frzC_ok (hr1 : Rel Fr1 β1 H1 w1) {base : Nat} {ban : Option Nat} : ∀ (d : Nat) (γ : Bt) (e : EV) (v : Value) (e' : EV), frzC H1 base ban d e = some e' → VR Fr1 w1 β1 e v → VR (FrTo Fr1 β1 H1 base ban) w1 γ e' v := by
  intro d
  induction d with
  | zero => intro γ e v e' h; simp [frzC] at h
  | succ d ih =>
    intro γ e v e' h hv
    have hFr : ∀ b x, Fr1 b x → FrTo Fr1 β1 H1 base ban b x := fun b x h => .inl h
    simp only [frzC] at h
    split at h
    · rename_i o i n z cap
      split at h
      · cases h
      · rename_i hban
        split at h
        · rename_i cs ho
          split at h
          · rename_i hl
            split at h
            · rename_i cs' hcs
              injection h with h
              subst h
              cases hv with
              | sl hb hn hc hm =>
                rename_i b s c
                obtain ⟨vs, hvs, hcell⟩ := hr1.cell ho hb
                have h3 := mapO_ok (w' := w1) (β' := []) (Fr' := FrTo Fr1 β1 H1 base ban) (fun e _ v e' h1 h2 => ih [] e v e' h1 h2) (hvs.cut i (n * z)) hcs
                have hlen : cs'.length = n * z := by rw [mapO_length hcs]; simp [cut]; omega
                refine .fz (z := z) (vs := (vs.drop i).take (n * z)) ?_ (chunk_width _ _ _ (by omega)) (fun j u hj => ⟨.inr ⟨o, s, _, by omega, fun e => hban (.inr e), hb, ho, trivial⟩, ?_⟩) (chunk_length _ _ _).symm hn (fun ht => by cases ht) (fun o' e => by cases e)
                · rw [chunk_flat, List.take_of_length_le (by omega)]
                  exact h3
                · rw [List.getElem?_take] at hj
                  split at hj
                  · rw [List.getElem?_drop] at hj
                    rw [Nat.add_assoc]
                    exact hcell _ _ hj
                  · cases hj
            · cases h
          · cases h
        · cases h
    · rename_i o
      split at h
      · cases h
      · rename_i hban
        split at h
        · rename_i es ho
          split at h
          · rename_i ks vs hks hvs
            injection h with h
            subst h
            cases hv with
            | map hb =>
              rename_i b
              obtain ⟨ents, clock, hh, h1, h2⟩ := hr1.maps _ _ _ _ ho hb
              have h3 := mapO_ok (w' := w1) (β' := []) (Fr' := FrTo Fr1 β1 H1 base ban) (fun e _ v e' h1 h2 => ih [] e v e' h1 h2) h1 hks
              have h4 := mapO_ok (w' := w1) (β' := []) (Fr' := FrTo Fr1 β1 H1 base ban) (fun e _ v e' h1 h2 => ih [] e v e' h1 h2) h2 hvs
              have l1 := mapO_length hks
              have l2 := mapO_length hvs
              simp only [List.length_map] at l1 l2
              exact .fm (by rw [List.map_fst_zip (by omega)]; exact h3) (by rw [List.map_snd_zip (by omega)]; exact h4) hh (.inr ⟨o, 0, _, by omega, fun e => hban (.inr e), hb, ho, trivial⟩)
          · cases h
        · cases h
    · rename_i cs
      split at h
      · rename_i cs' hcs
        injection h with h
        subst h
        cases hv with
        | agg hv => exact .agg (mapO_ok (fun e _ v e' h1 h2 => ih γ e v e' h1 h2) hv hcs)
      · cases h
    · have := still_ok (γ := γ) h hv
      exact this.mono (fun _ _ h => h) hFr (Keep.refl _ _) (Shape.refl _)

/-- The same block as before the call. -/
theorem ext_back (hlen : β.length = H0.length) (hok : Ok Fr β H0 w Fr1 β1 H1 w1) {o : Nat} {x : Nat × Nat} (h : β1[o]? = some (some x)) (ho : o < H0.length) : β[o]? = some (some x) := by
  cases hb : β[o]? with
  | none => rw [List.getElem?_eq_none_iff] at hb; omega
  | some y =>
    cases y with
    | none => rw [hok.ext' o hb] at h; cases h
    | some y =>
      have := hok.ext o y hb
      rw [this] at h
      exact h

theorem frzA_ok (hr0 : Rel Fr β H0 w) (hok : Ok Fr β H0 w Fr1 β1 H1 w1) {ban : Option Nat} {d : Nat} {e e' : EV} {v : Value} (h : frzA H1 H0.length ban d e = some e') (hv : VR Fr1 w1 β1 e v) : VR (FrTo Fr1 β1 H1 H0.length ban) w1 β e' v := by
  have hFr : ∀ b x, Fr1 b x → FrTo Fr1 β1 H1 H0.length ban b x := fun b x h => .inl h
  have hK : Keep Fr1 w1 w1 := Keep.refl _ _
  unfold frzA at h
  split at h
  · split at h
    · injection h with h
      subst h
      cases hv with
      | ptr hb => exact .ptr (ext_back hr0.len hok hb (by assumption))
    · cases h
  · split at h
    · injection h with h
      subst h
      cases hv with
      | map hb => exact .map (ext_back hr0.len hok hb (by assumption))
    · exact frzC_ok hok.rel _ β _ _ _ h hv
  · split at h
    · injection h with h
      subst h
      cases hv with
      | sl hb hn hc hm => exact .sl (ext_back hr0.len hok hb (by assumption)) hn hc hm
    · exact frzC_ok hok.rel _ β _ _ _ h hv
  · rename_i es o
    split at h
    · rename_i hlt
      injection h with h
      subst h
      cases hv with
      | fz0 _ hk => exact absurd rfl (hk o)
      | fz a b c d' e f g => exact .fz (a.mono (fun _ _ h => h) hFr hK (Shape.refl _)) b (c.mono hFr hK) d' e f (fun o' ho' => by
          injection ho' with ho'
          subst ho'
          exact ⟨(g o rfl).1, ext_back hr0.len hok (g o rfl).2.1 hlt, (g o rfl).2.2⟩)
    · injection h with h
      subst h
      cases hv with
      | fz0 _ hk => exact absurd rfl (hk o)
      | fz a b c d' e f g => exact .fz (a.mono (fun _ _ h => h) hFr hK (Shape.refl _)) b (c.mono hFr hK) d' e (fun e => by cases e) (fun o e => by cases e)
  · rename_i f a b
    split at h
    · rename_i a' b' ha hb
      injection h with h
      subst h
      cases hv with
      | fn hx hy => exact .fn (mapO_ok (fun e _ v e' h1 h2 => frzC_ok hok.rel _ β _ _ _ h1 h2) hx ha) (mapO_ok (fun e _ v e' h1 h2 => frzC_ok hok.rel _ β _ _ _ h1 h2) hy hb)
    · cases h
  · exact frzC_ok hok.rel _ β _ _ _ h hv

theorem frzV_ok (hr0 : Rel Fr β H0 w) (hok : Ok Fr β H0 w Fr1 β1 H1 w1) {ban : Option Nat} {d : Nat} {e e' : EV} {v : Value} (h : frzV H1 H0.length ban d e = some e') (hv : VR Fr1 w1 β1 e v) : VR (FrTo Fr1 β1 H1 H0.length ban) w1 β e' v := by
  unfold frzV at h
  split at h
  · injection h with h
    subst h
    cases hv
    exact .undef
  · split at h
    · rename_i cs' hcs
      injection h with h
      subst h
      cases hv with
      | agg hv => exact .agg (mapO_ok (fun e _ v e' h1 h2 => frzA_ok hr0 hok h1 h2) hv hcs)
    · cases h
  · exact frzA_ok hr0 hok h hv

theorem frzT_ok (hr0 : Rel Fr β H0 w) (hok : Ok Fr β H0 w Fr1 β1 H1 w1) {d : Nat} {e e' : EV} {v : Value} (h : frzT H1 H0.length d e = some e') (hv : VR Fr1 w1 β1 e v) : VR (FrTo Fr1 β1 H1 H0.length none) w1 β e' v := by
  unfold frzT at h
  split at h
  · split at h
    · rename_i cs' hcs
      injection h with h
      subst h
      cases hv with
      | tup hv => exact .tup (mapO_ok (fun e _ v e' h1 h2 => frzV_ok hr0 hok h1 h2) hv hcs)
    · cases h
  · exact frzV_ok hr0 hok h hv

/-- One more object, in a block that is there. -/
theorem Rel.adopt (hr : Rel Fr β H0 w) {b s : Nat} {cs : List EV} {rc : Array Value} {t : TypeId} {fr : Nat × Nat} {vs : List Value} (hb : w.heap[b]? = some (Obj.cells rc t fr)) (hv : VRs Fr w β cs vs) (hc : ∀ (j : Nat) (v : Value), vs[j]? = some v → rc[s + j]? = some v ∧ ¬ (fr.1 ≤ s + j ∧ s + j < fr.2))
    (hF : ∀ x, ¬ Fr b x) (hI : ¬ Im β H0 b) : Rel Fr (β ++ [some (b, s)]) (H0 ++ [.cells cs]) w := by
  have hl := hr.len
  have hext : ∀ (o' : Nat) (x : Nat × Nat), β[o']? = some (some x) → (β ++ [some (b, s)])[o']? = some (some x) := fun o' x h => ext_app h
  have mono : ∀ {es : List EV} {vs : List Value}, VRs Fr w β es vs → VRs Fr w (β ++ [some (b, s)]) es vs := fun h => h.mono hext (fun _ _ h => h) (Keep.refl _ _) (Shape.refl w)
  refine ⟨by simp [hl], ?_, ?_, ?_, ?_, ?_, ?_, hr.old⟩
  · intro o' cs' b' s' h hb'
    rcases grown_at hl hb' h with ⟨rfl, rfl, rfl, e⟩ | ⟨h1, h2, h3⟩
    · injection e with e
      subst e
      exact ⟨rc, t, fr, vs, hb, mono hv, hc⟩
    · obtain ⟨rc, t, fr, vs, hh, hv, hcc⟩ := hr.cells o' cs' b' s' h3 h2
      exact ⟨rc, t, fr, vs, hh, mono hv, hcc⟩
  · intro o' es b' s' h hb'
    rcases grown_at hl hb' h with ⟨rfl, rfl, rfl, e⟩ | ⟨h1, h2, h3⟩
    · cases e
    · obtain ⟨ents, c, hh, hv1, hv2⟩ := hr.maps o' es b' s' h3 h2
      exact ⟨ents, c, hh, mono hv1, mono hv2⟩
  · intro o' m b' s' h hb'
    rcases grown_at hl hb' h with ⟨rfl, rfl, rfl, e⟩ | ⟨h1, h2, h3⟩
    · cases e
    · exact hr.tips o' m b' s' h3 h2
  · rintro o' b' s' hb' ⟨x, hx, hn⟩
    rcases grown_at hl hb' hx with ⟨_, rfl, _⟩ | ⟨_, h2, h3⟩
    · exact (Array.getElem?_eq_some_iff.1 hb).1
    · exact hr.live o' b' s' h2 ⟨x, h3, hn⟩
  · rintro b' x ⟨o', s', y, h1, h2, h3⟩ hf
    rcases grown_at hl h1 h2 with ⟨_, rfl, _⟩ | ⟨_, h4, h5⟩
    · exact hF x hf
    · exact hr.free b' x ⟨o', s', y, h4, h5, h3⟩ hf
  · rintro o1 o2 b' s1 s2 h1 h2 ⟨y1, a1, n1⟩ ⟨y2, a2, n2⟩
    rcases grown_at hl h1 a1 with ⟨p1, p2, _⟩ | ⟨p1, p3, p4⟩ <;> rcases grown_at hl h2 a2 with ⟨q1, q2, _⟩ | ⟨q1, q3, q4⟩
    · omega
    · subst p2; exact absurd ⟨o2, s2, q3, _, q4, n2⟩ hI
    · subst q2; exact absurd ⟨o1, s1, p3, _, p4, n1⟩ hI
    · exact hr.inj o1 o2 _ _ _ p3 q3 ⟨_, p4, n1⟩ ⟨_, q4, n2⟩

/-- Likewise, of which a part is taken. -/
theorem Rel.adoptTip (hr : Rel Fr β H0 w) {b s m : Nat} {rc : Array Value} {t : TypeId} {fr : Nat × Nat} (hb : w.heap[b]? = some (Obj.cells rc t fr)) (hF : ∀ x, s + m ≤ x → ¬ Fr b x) (hI : ¬ Im β H0 b) : Rel Fr (β ++ [some (b, s)]) (H0 ++ [.tip m]) w := by
  have hl := hr.len
  have hext : ∀ (o' : Nat) (x : Nat × Nat), β[o']? = some (some x) → (β ++ [some (b, s)])[o']? = some (some x) := fun o' x h => ext_app h
  have mono : ∀ {es : List EV} {vs : List Value}, VRs Fr w β es vs → VRs Fr w (β ++ [some (b, s)]) es vs := fun h => h.mono hext (fun _ _ h => h) (Keep.refl _ _) (Shape.refl w)
  refine ⟨by simp [hl], ?_, ?_, ?_, ?_, ?_, ?_, hr.old⟩
  · intro o' cs' b' s' h hb'
    rcases grown_at hl hb' h with ⟨rfl, rfl, rfl, e⟩ | ⟨h1, h2, h3⟩
    · cases e
    · obtain ⟨rc, t, fr, vs, hh, hv, hcc⟩ := hr.cells o' cs' b' s' h3 h2
      exact ⟨rc, t, fr, vs, hh, mono hv, hcc⟩
  · intro o' es b' s' h hb'
    rcases grown_at hl hb' h with ⟨rfl, rfl, rfl, e⟩ | ⟨h1, h2, h3⟩
    · cases e
    · obtain ⟨ents, c, hh, hv1, hv2⟩ := hr.maps o' es b' s' h3 h2
      exact ⟨ents, c, hh, mono hv1, mono hv2⟩
  · intro o' m b' s' h hb'
    rcases grown_at hl hb' h with ⟨rfl, rfl, rfl, e⟩ | ⟨h1, h2, h3⟩
    · exact ⟨rc, t, fr, hb⟩
    · exact hr.tips o' m b' s' h3 h2
  · rintro o' b' s' hb' ⟨x, hx, hn⟩
    rcases grown_at hl hb' hx with ⟨_, rfl, _⟩ | ⟨_, h2, h3⟩
    · exact (Array.getElem?_eq_some_iff.1 hb).1
    · exact hr.live o' b' s' h2 ⟨x, h3, hn⟩
  · rintro b' x ⟨o', s', y, h1, h2, h3⟩ hf
    rcases grown_at hl h1 h2 with ⟨_, rfl, rfl, rfl⟩ | ⟨_, h4, h5⟩
    · exact hF x h3 hf
    · exact hr.free b' x ⟨o', s', y, h4, h5, h3⟩ hf
  · rintro o1 o2 b' s1 s2 h1 h2 ⟨y1, a1, n1⟩ ⟨y2, a2, n2⟩
    rcases grown_at hl h1 a1 with ⟨p1, p2, _⟩ | ⟨p1, p3, p4⟩ <;> rcases grown_at hl h2 a2 with ⟨q1, q2, _⟩ | ⟨q1, q3, q4⟩
    · omega
    · subst p2; exact absurd ⟨o2, s2, q3, _, q4, n2⟩ hI
    · subst q2; exact absurd ⟨o1, s1, p3, _, p4, n1⟩ hI
    · exact hr.inj o1 o2 _ _ _ p3 q3 ⟨_, p4, n1⟩ ⟨_, q4, n2⟩

theorem keepV_ok (hr0 : Rel Fr β H0 w) (hok : Ok Fr β H0 w Fr1 β1 H1 w1) (hg : ∀ o, o < H0.length → H1[o]? = H0[o]?) {d o : Nat} {e e' : EV} {v : Value} {K : Heap} (h : keepV H1 H0.length d e H0 = some (e', K, o)) (hv : VR Fr1 w1 β1 e v) :
    ∃ β', Ok Fr β H0 w (FrTo Fr1 β1 H1 H0.length (some o)) β' K w1 ∧ VR (FrTo Fr1 β1 H1 H0.length (some o)) w1 β' e' v ∧ (∀ (o : Nat) (x : Nat × Nat), β[o]? = some (some x) → β'[o]? = some (some x)) := by
  unfold keepV at h
  split at h
  · rename_i o' i n z cap
    split at h
    · cases h
    · rename_i hge
      split at h
      · rename_i cs ho
        split at h
        · rename_i hl
          split at h
          · rename_i cs' hcs
            injection h with h
            injection h with h h'
            injection h' with h' h2
            subst h; subst h'; subst h2
            have htr := Ok.trim hr0 hok hg (some o')
            cases hv with
            | sl hb hn hc hm =>
              rename_i b s c
              obtain ⟨rc, t, fr, vs, hh, hvs, hcc⟩ := hok.rel.cells _ _ _ _ ho hb
              have hvs' := mapO_ok (w' := w1) (β' := β) (Fr' := FrTo Fr1 β1 H1 H0.length (some o')) (fun e _ v e' h1 h2 => frzC_ok hok.rel _ β e v e' h1 h2) (hvs.cut i (n * z)) hcs
              have hali : alive H1 o' := ⟨_, ho, by simp⟩
              have hF : ∀ x, ¬ FrTo Fr1 β1 H1 H0.length (some o') b x := by
                rintro x (hf | ⟨o2, s2, ob, h1, h2, h3, h4, h5⟩)
                · exact hok.rel.free b x ⟨o', s, _, hb, ho, trivial⟩ hf
                · exact h2 (congrArg some (hok.rel.inj o' o2 b s s2 hb h3 hali (owns_alive h4 h5)))
              have hI : ¬ Im β H0 b := by
                rintro ⟨o2, s2, h1, ⟨x, hx, hn⟩⟩
                have hlt := (List.getElem?_eq_some_iff.1 hx).1
                have := hok.rel.inj o2 o' b s2 s (hok.ext _ _ h1) hb ⟨x, by rw [hg o2 hlt]; exact hx, hn⟩ hali
                omega
              have hrel := Rel.adopt (b := b) (s := s + i) htr.rel hh hvs' (fun j u hj => by
                rw [List.getElem?_take] at hj
                split at hj
                · rw [List.getElem?_drop] at hj
                  rw [Nat.add_assoc]
                  exact hcc _ _ hj
                · cases hj) hF hI
              have hext : ∀ (o : Nat) (x : Nat × Nat), β[o]? = some (some x) → (β ++ [some (b, s + i)])[o]? = some (some x) := fun o' x h => ext_app h
              refine ⟨β ++ [some (b, s + i)], ⟨hrel, hext, fun o h => ext_app h, htr.fr, htr.stp, ?_, ?_, htr.frn⟩, ?_, hext⟩
              · rintro b' hlt ⟨o2, s2, h1, ⟨x, hx, hn⟩⟩
                rcases grown_at hr0.len h1 hx with ⟨_, rfl, _⟩ | ⟨_, h2, h3⟩
                · exact hok.im _ hlt ⟨o', s, hb, hali⟩
                · exact ⟨o2, s2, h2, x, h3, hn⟩
              · rintro b' x hlt ⟨o2, s2, y, h1, h2, h3⟩
                rcases grown_at hr0.len h1 h2 with ⟨_, rfl, _⟩ | ⟨_, h4, h5⟩
                · exact hok.imc _ x hlt ⟨o', s, _, hb, ho, trivial⟩
                · exact ⟨o2, s2, y, h4, h5, h3⟩
              · have : VR (FrTo Fr1 β1 H1 H0.length (some o')) w1 (β ++ [some (b, s + i)]) (.sl H0.length 0 n z (if cap = some n then some n else none)) (.slice (some ⟨b, s + i + 0, none⟩) n c) := by
                  refine .sl (new_at htr.rel _) hn (fun k hk => ?_) hm
                  split at hk
                  · injection hk with hk
                    rename_i hcap
                    exact (hc n hcap).trans hk
                  · cases hk
                exact this
          · cases h
        · cases h
      · cases h
  · rename_i es o'
    split at h
    · cases h
    · rename_i hge
      split at h
      · rename_i m ho
        injection h with h
        injection h with h h'
        injection h' with h' h2
        subst h; subst h'; subst h2
        have htr := Ok.trim hr0 hok hg (some o')
        have hFr : ∀ b x, Fr1 b x → FrTo Fr1 β1 H1 H0.length (some o') b x := fun b x h => .inl h
        cases hv with
        | fz0 _ hk => exact absurd rfl (hk o')
        | fz a1 a2 a3 a4 a5 a6 a7 =>
          rename_i vs b s z n c
          obtain ⟨hne, hb, hroom⟩ := a7 o' rfl
          obtain ⟨rc, t, fr, hh⟩ := hok.rel.tips _ _ _ _ ho hb
          have hali : alive H1 o' := ⟨_, ho, by simp⟩
          have hF : ∀ x, s + m ≤ x → ¬ FrTo Fr1 β1 H1 H0.length (some o') b x := by
            rintro x hx (hf | ⟨o2, s2, ob, h1, h2, h3, h4, h5⟩)
            · exact hok.rel.free b x ⟨o', s, _, hb, ho, hx⟩ hf
            · exact h2 (congrArg some (hok.rel.inj o' o2 b s s2 hb h3 hali (owns_alive h4 h5)))
          have hI : ¬ Im β H0 b := by
            rintro ⟨o2, s2, h1, ⟨x, hx, hn⟩⟩
            have hlt := (List.getElem?_eq_some_iff.1 hx).1
            have := hok.rel.inj o2 o' b s2 s (hok.ext _ _ h1) hb ⟨x, by rw [hg o2 hlt]; exact hx, hn⟩ hali
            omega
          have hrel := Rel.adoptTip (b := b) (s := s) (m := m) htr.rel hh hF hI
          have hext : ∀ (o : Nat) (x : Nat × Nat), β[o]? = some (some x) → (β ++ [some (b, s)])[o]? = some (some x) := fun o' x h => ext_app h
          refine ⟨β ++ [some (b, s)], ⟨hrel, hext, fun o h => ext_app h, htr.fr, htr.stp, ?_, ?_, htr.frn⟩, ?_, hext⟩
          · rintro b' hlt ⟨o2, s2, h1, ⟨x, hx, hn⟩⟩
            rcases grown_at hr0.len h1 hx with ⟨_, rfl, _⟩ | ⟨_, h2, h3⟩
            · exact hok.im _ hlt ⟨o', s, hb, hali⟩
            · exact ⟨o2, s2, h2, x, h3, hn⟩
          · rintro b' x hlt ⟨o2, s2, y, h1, h2, h3⟩
            rcases grown_at hr0.len h1 h2 with ⟨_, rfl, e2, rfl⟩ | ⟨_, h4, h5⟩
            · exact hok.imc _ x hlt ⟨o', s, _, hb, ho, e2 ▸ h3⟩
            · exact ⟨o2, s2, y, h4, h5, h3⟩
          · refine .fz (a1.mono (fun _ _ h => h) hFr (Keep.refl _ _) (Shape.refl _)) a2 (a3.mono hFr (Keep.refl _ _)) a4 a5 (fun e => by cases e) (fun o2 e => ?_)
            injection e with e
            subst e
            exact ⟨hne, new_at htr.rel _, hroom⟩
      · cases h
  · injection h with h
    injection h with h h'
    injection h' with h' h2
    subst h; subst h'
    have htr := Ok.trim hr0 hok hg (some o)
    have hFr : ∀ b x, Fr1 b x → FrTo Fr1 β1 H1 H0.length (some o) b x := fun b x h => .inl h
    refine ⟨β, htr, ?_, fun _ _ h => h⟩
    cases hv with
    | fz0 ht hk => exact .fz0 ht hk
    | fz a1 a2 a3 a4 a5 a6 a7 => exact .fz (a1.mono (fun _ _ h => h) hFr (Keep.refl _ _) (Shape.refl _)) a2 (a3.mono hFr (Keep.refl _ _)) a4 a5 a6 (fun o2 e => by cases e)
  · cases h

/-- What is held of its own becomes a value that may grow. -/
theorem meltV_ok {Fr2 : Nat → Nat → Prop} {β2 : Bt} {K K' : Heap} (hr : Rel Fr2 β2 K w1) {base : Nat} {e e' : EV} {v : Value} (h : meltV base K e = some (e', K')) (hv : VR Fr2 w1 β2 e v) :
    ∃ Fr' β', Ok Fr2 β2 K w1 Fr' β' K' w1 ∧ VR Fr' w1 β' e' v := by
  unfold meltV at h
  split at h
  · rename_i o n z
    split at h
    · split at h
      · rename_i cs ho
        split at h
        · rename_i hl
          split at h
          · rename_i cs' hcs
            injection h with h
            injection h with h h'
            subst h; subst h'
            cases hv with
            | sl hb hn hc hm =>
              rename_i b s c
              obtain ⟨rc, t, fr, vs, hh, hvs, hcc⟩ := hr.cells _ _ _ _ ho hb
              have hlen : cs'.length = (n + 1) * z := by rw [mapO_length hcs]; simp [cut]; omega
              have hk := Ok.renew (w' := w1) (Fr' := fun k x => Fr2 k x ∨ (k = b ∧ s ≤ x ∧ x < s + (n + 1) * z)) (s' := s) (ob := .tip ((n + 1) * z)) hr ho hb (by simp) (by simp) hh (fun x _ => trivial)
                (fun k x hf => hf.elim .inl fun h => .inr ⟨h.1, trivial⟩) (fun k x hf => .inl hf) (fun x hx => by
                  rintro (hf | ⟨_, _, h3⟩)
                  · exact hr.free b x ⟨o, s, _, hb, ho, trivial⟩ hf
                  · have : s + (n + 1) * z ≤ x := hx
                    omega) rfl ⟨rc, hh, rfl⟩ (fun _ _ => rfl) (fun _ _ => rfl) rfl rfl rfl (fun cs e => by cases e) (fun es e => by cases e)
              refine ⟨_, _, hk, ?_⟩
              have h3 := mapO_ok (w' := w1) (β' := []) (Fr' := fun k x => Fr2 k x ∨ (k = b ∧ s ≤ x ∧ x < s + (n + 1) * z)) (fun e _ v e' h1 h2 => (still_ok (γ := []) h1 h2).mono (fun _ _ h => h) (fun _ _ h => .inl h) (Keep.refl _ _) (Shape.refl _)) (hvs.cut 0 ((n + 1) * z)) hcs
              refine .fz (z := z) (vs := (vs.drop 0).take ((n + 1) * z)) ?_ (chunk_width _ _ _ (by omega)) (fun j u hj => ?_) (chunk_length _ _ _).symm hn (fun e => by cases e) (fun o' e => ?_)
              · rw [chunk_flat, List.take_of_length_le (by omega)]
                exact h3
              · rw [List.getElem?_take] at hj
                split at hj
                · rw [List.drop_zero] at hj
                  exact ⟨.inr ⟨rfl, by omega, by omega⟩, by simp [World.cell?, hh, (hcc _ _ hj).1]⟩
                · cases hj
              · injection e with e
                subst e
                refine ⟨by simp [chunk], ?_, hm⟩
                have := new_at hk.rel
                rw [← hr.len]
                simp
          · cases h
        · cases h
      · cases h
    · cases h
  · cases h

theorem finishE_ok (hr0 : Rel Fr β H0 w) (hok : Ok Fr β H0 w Fr1 β1 H1 w1) (hg : Grw H0 H1 W) {pol : Nat} {e e' : EV} {v : Value} {H' : Heap} {W' : List Nat} (hv : VR Fr1 w1 β1 e v) (h : finishE pol H0 H1 W e = (e', H', W')) :
    ∃ Fr' β', Ok Fr β H0 w Fr' β' H' w1 ∧ VR Fr' w1 β' e' v := by
  have hf := hg.filter
  unfold finishE at h
  simp only at h
  generalize W.filter (· < H0.length) = Wf at h hf
  have keep : ∃ Fr' β', Ok Fr β H0 w Fr' β' H1 w1 ∧ VR Fr' w1 β' e v := ⟨Fr1, β1, hok, hv⟩
  have trim : ∀ e', Wf = [] → frzT H1 H0.length freezeDepth e = some e' → ∃ Fr' β', Ok Fr β H0 w Fr' β' H0 w1 ∧ VR Fr' w1 β' e' v := fun e' hW he => by
    subst hW
    exact ⟨_, _, Ok.trim hr0 hok (fun o ho => hf.2 o ho (by simp)) none, frzT_ok hr0 hok he hv⟩
  split at h
  · split at h
    · rename_i he
      injection h with h h'
      injection h' with h' _
      subst h; subst h'
      exact trim _ rfl he
    · injection h with h h'
      injection h' with h' _
      subst h; subst h'
      exact keep
  · split at h
    · split at h
      · rename_i hk
        split at h
        · rename_i hr
          injection h with h h'
          injection h' with h' _
          subst h; subst h'
          cases hv with
          | tup hv => cases hv with
            | cons hx hrs =>
              obtain ⟨β', k1, k2, k3⟩ := keepV_ok hr0 hok (fun o ho => hf.2 o ho (by simp)) hk hx
              have := mapO_ok (fun e _ v e' h1 h2 => frzV_ok hr0 hok h1 h2) hrs hr
              exact ⟨_, β', k1, .tup (.cons k2 (this.mono k3 (fun _ _ h => h) (Keep.refl _ _) (Shape.refl _)))⟩
        · injection h with h h'
          injection h' with h' _
          subst h; subst h'
          exact keep
      · split at h
        · rename_i he
          injection h with h h'
          injection h' with h' _
          subst h; subst h'
          exact trim _ rfl he
        · injection h with h h'
          injection h' with h' _
          subst h; subst h'
          exact keep
    · split at h
      · rename_i hk
        injection h with h h'
        injection h' with h' _
        subst h; subst h'
        obtain ⟨β', k1, k2, _⟩ := keepV_ok hr0 hok (fun o ho => hf.2 o ho (by simp)) hk hv
        exact ⟨_, β', k1, k2⟩
      · split at h
        · rename_i he
          injection h with h h'
          injection h' with h' _
          subst h; subst h'
          exact trim _ rfl he
        · injection h with h h'
          injection h' with h' _
          subst h; subst h'
          exact keep
  · split at h
    · rename_i hk
      obtain ⟨β', k1, k2, _⟩ := keepV_ok hr0 hok (fun o ho => hf.2 o ho (by simp)) hk hv
      split at h
      · rename_i hm
        injection h with h h'
        injection h' with h' _
        subst h; subst h'
        obtain ⟨Fr2, β2, m1, m2⟩ := meltV_ok k1.rel hm k2
        exact ⟨Fr2, β2, k1.trans m1, m2⟩
      · injection h with h h'
        injection h' with h' _
        subst h; subst h'
        exact ⟨_, β', k1, k2⟩
    · split at h
      · rename_i he
        injection h with h h'
        injection h' with h' _
        subst h; subst h'
        exact trim _ rfl he
      · injection h with h h'
        injection h' with h' _
        subst h; subst h'
        exact keep
  · injection h with h h'
    injection h' with h' _
    subst h; subst h'
    exact keep
end
end Go.Ev
end

/- The evaluator E: regions, code, calls: what E computes is what the program does. -/
section
namespace Go.Ev
open Go
set_option linter.unusedSimpArgs false
set_option linter.unusedVariables false

/-- The globals that are known. -/
def GOk (G : Nat → Option EV) (Fr : Nat → Nat → Prop) (w : World) (β : Bt) : Prop := ∀ g e, G g = some e → VR Fr w β e (.pointer (some ⟨g, 0, none⟩))
/-- ds: the calls that are deferred. -/
def AR (ds : List Deferred) (Fr : Nat → Nat → Prop) (w : World) (β : Bt) (env : Env) (a : Act) : Prop := a.defers = ds ∧ VRs Fr w β env a.tmps.toList
def Rets (Fr : Nat → Nat → Prop) (β : Bt) (H : Heap) (w : World) (v : EV) (H' : Heap) : Ending → World → Prop := fun e w' => ∃ val Fr' β', e = .returned val ∧ Ok Fr β H w Fr' β' H' w' ∧ VR Fr' w' β' v val
/-- A call, as 'callFunc' begins it. -/
def Yields (P : Program) (f : Nat) (vals : Array Value) (w : World) (R : Ending → World → Prop) : Prop :=
  ((callFunc f vals).run P w = .ok (.enter f vals) w ∧ Calls P f vals w R) ∨ ∃ val w', (callFunc f vals).run P w = .ok (.value val) w' ∧ R (.returned val) w'
def CallOk (P : Program) (G : Nat → Option EV) (cf : CallF) : Prop := ∀ f args H v H' W, cf f args H = some (v, H', W) → ∀ Fr β w (vals : List Value), Rel Fr β H w → GOk G Fr w β → VRs Fr w β args vals → Yields P f vals.toArray w (Rets Fr β H w v H')
def DrawOk (P : Program) (G : Nat → Option EV) (df : DrawF) : Prop := ∀ ops env H env' H' W, df ops env H = some (env', H', W) → ∀ ds id Fr β w a Q, Rel Fr β H w → GOk G Fr w β → AR ds Fr w β env a →
  (∀ Fr' β' w' a', Ok Fr β H w Fr' β' H' w' → AR ds Fr' w' β' env' a' → Q Exit.normal a' w') → (Code.region id ops true).wp P Q a w

section
variable {P : Program} {E : EP} {cf : CallF} {df : DrawF} {Fr Fr' : Nat → Nat → Prop} {w w' : World} {β β' : Bt} {H H' : Heap} {env : Env} {a : Act} {G : Nat → Option EV} {ds : List Deferred}

theorem GOk.step (hr : Rel Fr β H w) (h : Ok Fr β H w Fr' β' H' w') (hg : GOk G Fr w β) : GOk G Fr' w' β' := fun g e he => h.vr hr (hg g e he)
theorem AR.step (hr : Rel Fr β H w) (h : Ok Fr β H w Fr' β' H' w') (ha : AR ds Fr w β env a) : AR ds Fr' w' β' env a := ⟨ha.1, h.vrs hr ha.2⟩
theorem AR.put (ha : AR ds Fr w β env a) {v : EV} {val : Value} (hv : VR Fr w β v val) (dst : Option Nat) : AR ds Fr w β (putE env dst v) (a.put dst val) := by
  cases dst with
  | none => exact ha
  | some d => exact ⟨ha.1, by simpa [Act.put, putE] using ha.2.set d hv⟩
theorem AR.tmp (ha : AR ds Fr w β env a) {t : Nat} {v : EV} (h : look env t = some v) : a.tmps[t]? = some (a.tmps.getD t undef) ∧ VR Fr w β v (a.tmps.getD t undef) := by
  obtain ⟨u, h1, h2⟩ := ha.2.get h
  have : a.tmps[t]? = some u := by simpa using h1
  have e : a.tmps.getD t undef = u := by simp [Array.getD_eq_getD_getElem?, this]
  rw [e]
  exact ⟨this, h2⟩
theorem AR.opd (ha : AR ds Fr w β env a) (hg : GOk G Fr w β) : Opd Fr w β G (look env) a.eval := by
  intro x e h
  cases x with
  | tmp t => exact (ha.tmp h).2
  | const v => exact ofC_VR h
  | global g => exact hg g e h
  | func f => simp only [evO] at h; injection h with h; subst h; exact VR.fn (us := []) (vs := []) .nil .nil

theorem want_ok (ha : AR ds Fr w β env a) {ops : Array Oper} {o : Oper} {b : Bool} (h : wantE ops (look env) o = some b) : Region.wanted o (yielded ops a.tmps) = b := by
  unfold wantE at h
  unfold Region.wanted
  split at h
  · rename_i hg
    injection h with h
    subst h
    rw [hg]
  · rename_i j want hg
    rw [hg]
    dsimp only
    split at h
    · rename_i d hd
      split at h
      · rename_i b' hb
        injection h with h
        subst h
        obtain ⟨h1, h2⟩ := ha.tmp hb
        generalize a.tmps.getD d undef = u at h1 h2
        cases h2
        simp only [yielded, hd, Option.bind_some, h1]
        cases b' <;> cases want <;> rfl
      · rename_i hb
        injection h with h
        subst h
        obtain ⟨h1, h2⟩ := ha.tmp hb
        generalize a.tmps.getD d undef = u at h1 h2
        cases h2
        simp only [yielded, hd, Option.bind_some, h1, Go.undef]
        rfl
      · cases h
    · cases h

theorem step_ok (hT : E.T = tiOf P) (hc : CallOk P E.G cf) {o : Oper} {v : EV} {W : List Nat} {next : Act → World → Prop} {Q : Exit → Act → World → Prop} (hr : Rel Fr β H w) (hg : GOk E.G Fr w β) (ha : AR ds Fr w β env a) (h : stepE E cf (look env) H o.op = some (v, H', W))
    (hn : ∀ Fr' β' w' val, Ok Fr β H w Fr' β' H' w' → VR Fr' w' β' v val → next (a.put o.dst val) w') : o.wp P a w next Q := by
  have hopd := ha.opd hg
  have plain : opE E (look env) H o.op = some (v, H', W) → o.wp P a w next Q := fun h => by
    obtain ⟨nx, w', Fr', β', h1, h2, h3⟩ := opE_ok hr hT hopd (fun _ => rfl) h
    unfold Oper.wp
    rw [h1]
    cases h3 with
    | value hv => exact hn _ _ _ _ h2 hv
    | skip => exact hn _ _ _ _ h2 .undef
  unfold stepE at h
  split at h
  · rename_i f as ts hop
    split at h
    · rename_i g x y vs hf has
      have hfv := hopd _ _ hf
      have hav := evL_ok hopd _ _ has
      generalize hfr : a.eval f = fv at hfv
      cases hfv with
      | fn hx hy =>
        rename_i us ws
        have hall := (hx.append hav).append hy
        have hy' := hc _ _ _ _ _ _ h Fr β w _ hr hg hall
        have hrun : (execOp a.eval o).run P w = (callFunc g (us ++ List.map a.eval as.toList ++ ws).toArray).run P w := by
          obtain ⟨dst, op, ty, pos, after, guard⟩ := o
          simp only at hop
          subst hop
          simp only [execOp, resolve, hfr, Deferred.ofValue, Sem.run_bind, Sem.run_pure, Result.andThen_ok, invoke]
          congr 2
          apply Array.ext'
          simp
        unfold Oper.wp
        rw [hrun]
        rcases hy' with ⟨h1, h2⟩ | ⟨val, w', h1, h2⟩
        · rw [h1]
          simp only [Oper.upon]
          refine h2.mono fun e w'' hR => ?_
          obtain ⟨val, Fr', β', rfl, hok, hv⟩ := hR
          exact hn _ _ _ _ hok hv
        · rw [h1]
          simp only [Oper.upon]
          obtain ⟨val', Fr', β', e, hok, hv⟩ := h2
          injection e with e
          subst e
          exact hn _ _ _ _ hok hv
    · cases h
  · exact plain h

theorem ops_ok (hT : E.T = tiOf P) (hc : CallOk P E.G cf) {ops : Array Oper} : ∀ (l : List Nat) (env env' : Env) (H H' : Heap) (W : List Nat), opsE E cf ops l env H = some (env', H', W) →
    ∀ ds Fr β w a Q, Rel Fr β H w → GOk E.G Fr w β → AR ds Fr w β env a → (∀ Fr' β' w' a', Ok Fr β H w Fr' β' H' w' → AR ds Fr' w' β' env' a' → Q Exit.normal a' w') → wpOps P ops Q l a w
  | [], env, env', H, H', W, h, ds, Fr, β, w, a, Q, hr, hg, ha, hq => by
    simp only [opsE] at h
    injection h with h; injection h with h1 h; injection h with h h'
    subst h1; subst h
    exact hq _ _ _ _ (Ok.refl hr) ha
  | i :: l, env, env', H, H', W, h, ds, Fr, β, w, a, Q, hr, hg, ha, hq => by
    simp only [opsE] at h
    simp only [wpOps]
    split at h
    · cases h
    · rename_i o ho
      simp only [ho]
      split at h
      · rename_i hw
        rw [if_pos (want_ok ha hw)]
        split at h
        · rename_i v H1 W1 e1
          split at h
          · rename_i env2 H2 W2 e2
            injection h with h; injection h with h1 h; injection h with h h'
            subst h1; subst h
            refine .inl (step_ok hT hc hr hg ha e1 fun Fr1 β1 w1 val hok hv => ?_)
            exact ops_ok hT hc l _ _ _ _ _ e2 ds Fr1 β1 w1 _ Q hok.rel (hg.step hr hok) ((ha.step hr hok).put hv _) (fun Fr' β' w' a' hok' ha' => hq _ _ _ _ (hok.trans hok') ha')
          · cases h
        · cases h
      · rename_i hw
        rw [if_neg (by rw [want_ok ha hw]; simp)]
        exact ops_ok hT hc l _ _ _ _ _ h ds Fr β w _ Q hr hg (ha.put .undef _) hq
      · cases h

def exOf : EX → Exit
  | .normal => .normal
  | .exit id => .exit id
  | .ret => .ret

theorem code_ok (hT : E.T = tiOf P) (hc : CallOk P E.G cf) (hd : DrawOk P E.G df) : ∀ (c : Code) (env : Env) (H : Heap) (x : EX) (env' : Env) (H' : Heap) (W : List Nat), codeE E cf df c env H = some (x, env', H', W) →
    ∀ ds Fr β w a Q, Rel Fr β H w → GOk E.G Fr w β → AR ds Fr w β env a → (∀ Fr' β' w' a', Ok Fr β H w Fr' β' H' w' → AR ds Fr' w' β' env' a' → Q (exOf x) a' w') → c.wp P Q a w := by
  intro c
  induction c with
  | skip =>
    intro env H x env' H' W h ds Fr β w a Q hr hg ha hq
    simp only [codeE] at h
    injection h with h; injection h with h1 h; injection h with h2 h; injection h with h _
    subst h1; subst h2; subst h
    exact wp_skip (hq _ _ _ _ (Ok.refl hr) ha)
  | region id ops draws =>
    intro env H x env' H' W h ds Fr β w a Q hr hg ha hq
    cases draws with
    | false =>
      simp only [codeE] at h
      split at h
      · rename_i e1
        injection h with h; injection h with h1 h; injection h with h2 h; injection h with h h'
        subst h1; subst h2; subst h
        exact wp_region (ops_ok hT hc _ _ _ _ _ _ e1 ds Fr β w a Q hr hg ha hq)
      · cases h
    | true =>
      simp only [codeE] at h
      split at h
      · rename_i e1
        injection h with h; injection h with h1 h; injection h with h2 h; injection h with h h'
        subst h1; subst h2; subst h
        exact hd _ _ _ _ _ _ e1 ds id Fr β w a Q hr hg ha hq
      · cases h
  | seq x y ihx ihy =>
    intro env H ex env' H' W h ds Fr β w a Q hr hg ha hq
    simp only [codeE] at h
    split at h
    · rename_i e1
      split at h
      · rename_i e2
        injection h with h; injection h with h1 h; injection h with h2 h; injection h with h h'
        subst h1; subst h2; subst h
        exact wp_seq (ihx _ _ _ _ _ _ e1 ds Fr β w a _ hr hg ha fun Fr1 β1 w1 a1 hok ha1 =>
          ihy _ _ _ _ _ _ e2 ds Fr1 β1 w1 a1 Q hok.rel (hg.step hr hok) ha1 fun Fr2 β2 w2 a2 hok2 ha2 => hq _ _ _ _ (hok.trans hok2) ha2)
      · cases h
    · rename_i hne
      refine wp_seq (ihx _ _ _ _ _ _ h ds Fr β w a _ hr hg ha fun Fr1 β1 w1 a1 hok ha1 => ?_)
      have := hq _ _ _ _ hok ha1
      cases ex with
      | normal => exact absurd h (hne _ _ _)
      | exit id => exact this
      | ret => exact this
  | cond c x y ihx ihy =>
    intro env H ex env' H' W h ds Fr β w a Q hr hg ha hq
    simp only [codeE] at h
    split at h
    · rename_i hcv
      have hv := (ha.opd hg) _ _ hcv
      generalize he : a.eval c = u at hv
      cases hv
      exact wp_cond_true he (ihx _ _ _ _ _ _ h ds Fr β w a Q hr hg ha hq)
    · rename_i hcv
      have hv := (ha.opd hg) _ _ hcv
      generalize he : a.eval c = u at hv
      cases hv
      exact wp_cond_false he (ihy _ _ _ _ _ _ h ds Fr β w a Q hr hg ha hq)
    · cases h
  | block id c ih =>
    intro env H x env' H' W h ds Fr β w a Q hr hg ha hq
    simp only [codeE] at h
    split at h
    · rename_i j env1 H1 W1 e1
      refine wp_block (ih _ _ _ _ _ _ e1 ds Fr β w a _ hr hg ha fun Fr1 β1 w1 a1 hok ha1 => ?_)
      split at h
      · rename_i hj
        injection h with h; injection h with h1 h; injection h with h2 h; injection h with h h'
        subst h1; subst h2; subst h
        simp only [exOf, Exit.inBlock, if_pos hj]
        exact hq _ _ _ _ hok ha1
      · rename_i hj
        injection h with h; injection h with h1 h; injection h with h2 h; injection h with h h'
        subst h1; subst h2; subst h
        simp only [exOf, Exit.inBlock, if_neg hj]
        exact hq _ _ _ _ hok ha1
    · rename_i hne
      refine wp_block (ih _ _ _ _ _ _ h ds Fr β w a _ hr hg ha fun Fr1 β1 w1 a1 hok ha1 => ?_)
      have := hq _ _ _ _ hok ha1
      cases x with
      | normal => exact this
      | exit id => exact absurd h (hne _ _ _ _)
      | ret => exact this
  | loop c ih =>
    intro env H x env' H' W h ds Fr β w a Q hr hg ha hq
    simp only [codeE] at h
    have key : ∀ (n : Nat) (env : Env) (H : Heap) (x : EX) (env' : Env) (H' : Heap) (W : List Nat), iterE (codeE E cf df c) n env H = some (x, env', H', W) →
        ∀ ds Fr β w a Q, Rel Fr β H w → GOk E.G Fr w β → AR ds Fr w β env a → (∀ Fr' β' w' a', Ok Fr β H w Fr' β' H' w' → AR ds Fr' w' β' env' a' → Q (exOf x) a' w') → Code.rounds P c Q n a w := by
      intro n
      induction n with
      | zero => intro env H x env' H' W h; simp [iterE] at h
      | succ n ihn =>
        intro env H x env' H' W h ds Fr β w a Q hr hg ha hq
        simp only [iterE] at h
        rw [rounds_succ]
        split at h
        · rename_i e1
          split at h
          · rename_i e2
            injection h with h; injection h with h1 h; injection h with h2 h; injection h with h h'
            subst h1; subst h2; subst h
            exact ih _ _ _ _ _ _ e1 ds Fr β w a _ hr hg ha fun Fr1 β1 w1 a1 hok ha1 =>
              ihn _ _ _ _ _ _ e2 ds Fr1 β1 w1 a1 Q hok.rel (hg.step hr hok) ha1 fun Fr2 β2 w2 a2 hok2 ha2 => hq _ _ _ _ (hok.trans hok2) ha2
          · cases h
        · rename_i hne
          refine ih _ _ _ _ _ _ h ds Fr β w a _ hr hg ha fun Fr1 β1 w1 a1 hok ha1 => ?_
          have := hq _ _ _ _ hok ha1
          cases x with
          | normal => exact absurd h (hne _ _ _)
          | exit id => exact this
          | ret => exact this
    exact wp_loop_rounds E.fuel (key _ _ _ _ _ _ _ h ds Fr β w a Q hr hg ha hq)
  | exit id =>
    intro env H x env' H' W h ds Fr β w a Q hr hg ha hq
    simp only [codeE] at h
    injection h with h; injection h with h1 h; injection h with h2 h; injection h with h _
    subst h1; subst h2; subst h
    exact wp_exit (hq _ _ _ _ (Ok.refl hr) ha)
  | ret =>
    intro env H x env' H' W h ds Fr β w a Q hr hg ha hq
    simp only [codeE] at h
    injection h with h; injection h with h1 h; injection h with h2 h; injection h with h _
    subst h1; subst h2; subst h
    exact wp_ret (hq _ _ _ _ (Ok.refl hr) ha)
  | _ => intro env H x env' H' W h; simp [codeE] at h

theorem results_ok (hT : E.T = tiOf P) (hr : Rel Fr β H w) (ha : AR ds Fr w β env a) : ∀ (rs : List ResultVar) (vs : List EV), resultsE E (look env) H rs = some vs → ∃ vals : List Value, (rs.mapM fun
    | .tmp t => pure (a.tmps.getD t undef)
    | .cell x t => do loadVar t (← asAddr (a.tmps.getD x undef)) : Sem (List Value)).run P w = .ok vals w ∧ VRs Fr w β vs vals
  | [], vs, h => by simp only [resultsE] at h; injection h with h; subst h; exact ⟨[], rfl, .nil⟩
  | .tmp t :: rs, vs, h => by
    simp only [resultsE] at h
    split at h
    · rename_i v vs' h1 h2
      injection h with h
      subst h
      obtain ⟨vals, h3, h4⟩ := results_ok hT hr ha rs vs' h2
      refine ⟨_, ?_, .cons (ha.tmp h1).2 h4⟩
      rw [List.mapM_cons]
      simp only [Sem.run_bind, Sem.run_pure, Result.andThen_ok, h3]
    · cases h
  | .cell x t :: rs, vs, h => by
    simp only [resultsE] at h
    split at h
    · rename_i p hp
      split at h
      · rename_i v vs' h1 h2
        injection h with h
        subst h
        obtain ⟨vals, h3, h4⟩ := results_ok hT hr ha rs vs' h2
        rw [hT] at h1
        have hpv := (ha.tmp hp).2
        obtain ⟨val, h5, h6⟩ := load_ok (P := P) hr hpv h1
        refine ⟨_, ?_, .cons h6 h4⟩
        rw [List.mapM_cons]
        simp only [Sem.run_bind, Sem.run_pure, Result.andThen_ok, h3]
        generalize a.tmps.getD x undef = u at hpv h5
        have hs : (asAddr u).run P w = (Instr.sureAddr u).run P w := by
          unfold loadE at h1
          split at h1
          · cases hpv <;> simp only [ldCells] at h1 <;> first | (cases h1; done) | rfl
          · cases h1
        have : ((asAddr u).run P w).andThen (fun x w' => (loadVar t x).run P w') = .ok val w := by
          rw [← h5, hs]
          simp only [Instr.loadAt, Sem.run_bind]
        rw [this]
        simp only [Result.andThen_ok, h3, Sem.run_pure]
      · cases h
    · cases h

theorem results_run (hT : E.T = tiOf P) (hr : Rel Fr β H w) (ha : AR ds Fr w β env a) {fn : Func} {vs : List EV} (hres : resultsE E (look env) H fn.results.toList = some vs) : ∃ val, (results fn a.tmps).run P w = .ok val w ∧ VR Fr w β (tupE vs) val := by
  obtain ⟨rv, h3, h4⟩ := results_ok hT hr ha _ _ hres
  have hm : (fn.results.mapM fun
      | .tmp t => pure (a.tmps.getD t undef)
      | .cell x t => do loadVar t (← asAddr (a.tmps.getD x undef)) : Sem (Array Value)).run P w = .ok rv.toArray w := by
    rw [Array.mapM_eq_mapM_toList]
    simp only [Sem.run_map, h3, Result.andThen_ok]
  refine ⟨if h : rv.toArray.size = 1 then rv.toArray[0] else .tuple rv.toArray, ?_, ?_⟩
  · unfold results
    simp only [Sem.run_bind, Sem.run_pure]
    exact (congrArg (fun r => Result.andThen r (fun (a : Array Value) w' => Result.ok (if h : a.size = 1 then a[0] else Value.tuple a) w')) hm).trans rfl
  · cases h4 with
    | nil => exact .tup .nil
    | cons hx hxs => cases hxs with
      | nil => exact hx
      | cons hy hys =>
        rw [dif_neg (by simp)]
        exact .tup (.cons hx (.cons hy hys))
/-- The temporaries when a call begins. -/
theorem AR.start {args : List EV} {vals : List Value} (hv : VRs Fr w β args vals) (n : Nat) : AR [] Fr w β (args ++ List.replicate (n - args.length) .undef) { tmps := vals.toArray ++ Array.replicate (n - vals.toArray.size) undef, defers := [] } := by
  have hl := hv.length
  refine ⟨rfl, ?_⟩
  simp only [Array.toList_append, Array.toList_replicate, List.size_toArray]
  rw [← hl]
  exact hv.append (VRs.replicate .undef _)

theorem body_wp (hT : E.T = tiOf P) (hcG : CfGrw cf) (hc : CallOk P E.G cf) (hdG : DfGrw df) (hd : DrawOk P E.G df) {f : Nat} {fn : Func} {c : Code} {args : List EV} {vals : List Value} {v : EV} {W : List Nat} (h : bodyE E cf df f fn c args H = some (v, H', W))
    (hr : Rel Fr β H w) (hg : GOk E.G Fr w β) (hv : VRs Fr w β args vals) : c.wp P (bodyPost P fn (Rets Fr β H w v H')) { tmps := vals.toArray ++ Array.replicate (fn.ntmps - vals.toArray.size) undef, defers := [] } w := by
  unfold bodyE at h
  split at h
  · split at h
    · cases h
    · rename_i x env H1 W1 hnx e1
      split at h
      · rename_i vs hres
        injection h with h
        refine code_ok (E := { E with vm := E.vms f }) hT hc hd c _ _ _ _ _ _ e1 [] Fr β w _ _ hr hg (AR.start hv _) fun Fr1 β1 w1 a1 hok ha1 => ?_
        obtain ⟨val, hrun, hval⟩ := results_run hT hok.rel ha1 hres
        obtain ⟨Fr2, β2, hok2, hv2⟩ := finishE_ok hr hok (codeE_grw hcG hdG _ _ _ _ _ _ _ e1) hval h
        have hbp : bodyPost P fn (Rets Fr β H w v H') .normal a1 w1 := ⟨ha1.1, val, hrun, val, Fr2, β2, rfl, hok2, hv2⟩
        cases x with
        | normal => exact hbp
        | ret => exact hbp
        | exit id => exact (hnx _ rfl).elim
      · cases h
    · cases h
  · cases h

theorem deferOf_spec {c : Code} {o : Oper} {x : Operand} (h : deferOf c = some (o, x)) : ∃ id od ts, c = .region id #[o, od] false ∧ od.op = .defer { callee := .value x, args := #[], argTypes := ts } ∧ od.dst = none ∧ od.guard = none ∧ o.guard = none := by
  unfold deferOf at h
  split at h
  · rename_i id ops
    unfold deferL at h
    split at h
    · rename_i o' od hops
      split at h
      · rename_i c hop
        split at h
        · rename_i x' hcal
          split at h
          · rename_i hg
            obtain ⟨g1, g2, g3, g4⟩ := hg
            injection h with h
            injection h with h1 h2
            subst h1; subst h2
            obtain ⟨callee, as, ts⟩ := c
            simp only at hcal g4
            subst hcal
            have has : as = #[] := by
              apply Array.ext'
              simpa using g4
            subst has
            refine ⟨id, od, ts, ?_, hop, by simpa using g3, by simpa using g2, by simpa using g1⟩
            have : ops = #[o', od] := by
              apply Array.ext'
              rw [hops]
            rw [this]
          · cases h
        · cases h
      · cases h
    · cases h
  · cases h

/-- What is known of the deferred calls. -/
def Dfd (Fr : Nat → Nat → Prop) (w : World) (β : Bt) (env : Env) (a : Act) : Option (Nat × List EV) → Prop
  | none => AR [] Fr w β env a
  | some (g, as) => ∃ us ws : List Value, VRs Fr w β as (us ++ ws) ∧ AR [{ target := .fn (.func g) ws.toArray, args := us.toArray }] Fr w β env a

theorem codeD_ok (hT : E.T = tiOf P) (hc : CallOk P E.G cf) (hd : DrawOk P E.G df) : ∀ (c : Code) (env : Env) (H : Heap) (x : EX) (env' : Env) (H' : Heap) (W : List Nat) (d : Option (Nat × List EV)), codeD E cf df c env H = some (x, env', H', W, d) →
    ∀ Fr β w a Q, Rel Fr β H w → GOk E.G Fr w β → AR [] Fr w β env a → (∀ Fr' β' w' a', Ok Fr β H w Fr' β' H' w' → Dfd Fr' w' β' env' a' d → Q (exOf x) a' w') → c.wp P Q a w := by
  intro c
  induction c with
  | seq x y ihx ihy =>
    intro env H ex env' H' W d h Fr β w a Q hr hg ha hq
    simp only [codeD] at h
    split at h
    · rename_i o z hdo
      obtain ⟨id, od, ts, rfl, h1, h2, h3, h4⟩ := deferOf_spec hdo
      split at h
      · rename_i v H1 W1 e1
        split at h
        · rename_i g as bs ez
          split at h
          · rename_i ex2 env2 H2 W2 e2
            injection h with h; injection h with h5 h; injection h with h6 h; injection h with h7 h; injection h with _ h8
            subst h5; subst h6; subst h7; subst h8
            refine wp_seq (wp_region ?_)
            have hrange : List.range (#[o, od] : Array Oper).size = [0, 1] := rfl
            rw [hrange]
            simp only [wpOps]
            have w0 : Region.wanted o (yielded #[o, od] a.tmps) = true := by unfold Region.wanted; rw [h4]
            simp only [List.getElem?_toArray, List.getElem?_cons_zero, w0, if_true, List.getElem?_cons_succ]
            refine .inl (step_ok hT hc hr hg ha e1 fun Fr1 β1 w1 val hok hv => ?_)
            have hg1 := hg.step hr hok
            have ha1 := (ha.step hr hok).put hv o.dst
            have w1' : Region.wanted od (yielded #[o, od] (a.put o.dst val).tmps) = true := by unfold Region.wanted; rw [h3]
            simp only [w1', if_true]
            have hz := (ha1.opd hg1) _ _ ez
            generalize hzr : (a.put o.dst val).eval z = zv at hz
            cases hz with
            | fn hx hy =>
              rename_i us ws
              left
              have hrun : (execOp (a.put o.dst val).eval od).run P w1 = .ok (.defer { target := .fn (.func g) ws.toArray, args := us.toArray }) w1 := by
                obtain ⟨dst, op, ty, pos, after, guard⟩ := od
                simp only at h1
                subst h1
                simp only [execOp, resolve, hzr, Deferred.ofValue, Sem.run_bind, Sem.run_pure, Result.andThen_ok]
                simp
              unfold Oper.wp
              rw [hrun]
              simp only [Oper.upon, h2]
              refine code_ok hT hc hd y _ _ _ _ _ _ e2 [{ target := .fn (.func g) ws.toArray, args := us.toArray }] Fr1 β1 w1 _ Q hok.rel hg1 ?_ fun Fr2 β2 w2 a2 hok2 ha2 => hq _ _ _ _ (hok.trans hok2) ⟨us, ws, hok2.vrs hok.rel (hx.append hy), ha2⟩
              refine ⟨?_, ha1.2⟩
              show _ :: (a.put o.dst val).defers = _
              rw [ha1.1]
          · cases h
        · cases h
      · cases h
    · split at h
      · rename_i e1
        split at h
        · rename_i e2
          injection h with h; injection h with h1 h; injection h with h2 h; injection h with h h'; injection h' with _ h'
          subst h1; subst h2; subst h; subst h'
          exact wp_seq (code_ok hT hc hd x _ _ _ _ _ _ e1 [] Fr β w a _ hr hg ha fun Fr1 β1 w1 a1 hok ha1 =>
            ihy _ _ _ _ _ _ _ e2 Fr1 β1 w1 a1 Q hok.rel (hg.step hr hok) ha1 fun Fr2 β2 w2 a2 hok2 ha2 => hq _ _ _ _ (hok.trans hok2) ha2)
        · cases h
      · rename_i ex1 env1 H1 W1 hne e1
        injection h with h; injection h with h1 h; injection h with h2 h; injection h with h h'; injection h' with _ h'
        subst h1; subst h2; subst h; subst h'
        refine wp_seq (code_ok hT hc hd x _ _ _ _ _ _ e1 [] Fr β w a _ hr hg ha fun Fr1 β1 w1 a1 hok ha1 => ?_)
        have := hq _ _ _ _ hok ha1
        cases ex1 with
        | normal => exact (hne rfl).elim
        | exit id => exact this
        | ret => exact this
      · cases h
  | _ => intro env H x env' H' W d h; simp [codeD] at h

theorem callD_wp (hT : E.T = tiOf P) (hF : ∀ f fn, E.F f = some fn → P.funcs[f]? = some fn ∧ (fn.name == "runtime.NumGoroutine") = false) (hcG : CfGrw cf) (hc : CallOk P E.G cf) (hdG : DfGrw df) (hd : DrawOk P E.G df) {f : Nat} {fn : Func} {c : Code} {args : List EV} {vals : List Value} {v : EV} {W : List Nat} (h : callD E cf df f fn c args H = some (v, H', W))
    (hr : Rel Fr β H w) (hg : GOk E.G Fr w β) (hv : VRs Fr w β args vals) : c.wp P (bodyPostD P fn (Rets Fr β H w v H')) { tmps := vals.toArray ++ Array.replicate (fn.ntmps - vals.toArray.size) undef, defers := [] } w := by
  unfold callD at h
  split at h
  · split at h
    · cases h
    · rename_i x env H1 W1 hnx e1
      split at h
      · rename_i vs hres
        injection h with h
        refine codeD_ok (E := { E with vm := E.vms f }) hT hc hd c _ _ _ _ _ _ _ e1 Fr β w _ _ hr hg (AR.start hv _) fun Fr1 β1 w1 a1 hok ha1 => ?_
        have ha1 : AR [] Fr1 w1 β1 env a1 := ha1
        obtain ⟨val, hrun, hval⟩ := results_run hT hok.rel ha1 hres
        obtain ⟨Fr2, β2, hok2, hv2⟩ := finishE_ok hr hok (codeD_grw hcG hdG _ _ _ _ _ _ _ _ e1) hval h
        have hbp : Leaves P fn a1.tmps (Rets Fr β H w v H') a1.defers .returning w1 := by
          rw [ha1.1]
          exact ⟨val, hrun, val, Fr2, β2, rfl, hok2, hv2⟩
        cases x with
        | normal => exact hbp
        | ret => exact hbp
        | exit id => exact (hnx _ rfl).elim
      · cases h
    · rename_i x env H1 W1 g as hnx e1
      split at h
      · rename_i fg hFg
        obtain ⟨hfg, hname⟩ := hF g fg hFg
        split at h
        · rename_i cg hcg
          split at h
          · rename_i v2 H2 W2 e2
            split at h
            · rename_i vs hres
              injection h with h
              refine codeD_ok (E := { E with vm := E.vms f }) hT hc hd c _ _ _ _ _ _ _ e1 Fr β w _ _ hr hg (AR.start hv _) fun Fr1 β1 w1 a1 hok ha1 => ?_
              obtain ⟨us, ws, hus, ha1⟩ := ha1
              have hg1 := hg.step hr hok
              have hwp := body_wp (P := P) hT hcG hc hdG hd e2 hok.rel hg1 hus
              have hargs : (us ++ ws).toArray = us.toArray ++ ws.toArray := by simp
              rw [hargs] at hwp
              have hD := callsD_of_wp (u := .returning) hfg hcg hwp
              have hbp : Leaves P fn a1.tmps (Rets Fr β H w v H') a1.defers .returning w1 := by
                rw [ha1.1]
                refine leaves_cons (by simp) (f := g) (args := us.toArray ++ ws.toArray) ?_ (hD.mono fun e u' w' hR => ?_)
                · simp only [invoke]
                  simp [callFunc, hfg, hcg]
                  simpa using hname
                · obtain ⟨rfl, val, Fr2, β2, rfl, hok2, _⟩ := hR
                  have ha2 := ha1.step hok.rel hok2
                  obtain ⟨val2, hrun, hval⟩ := results_run hT hok2.rel ha2 hres
                  obtain ⟨Fr3, β3, hok3, hv3⟩ := finishE_ok hr (hok.trans hok2) ((codeD_grw hcG hdG _ _ _ _ _ _ _ _ e1).trans (bodyE_grw hcG hdG e2)) hval h
                  exact ⟨val2, hrun, val2, Fr3, β3, rfl, hok3, hv3⟩
              cases x with
              | normal => exact hbp
              | ret => exact hbp
              | exit id => exact (hnx _ rfl).elim
            · cases h
          · cases h
        · cases h
      · cases h
    · cases h
  · cases h

theorem call_ok {D : CallF → DrawF} (hT : E.T = tiOf P) (hF : ∀ f fn, E.F f = some fn → P.funcs[f]? = some fn ∧ (fn.name == "runtime.NumGoroutine") = false)
    (hI : CallOk P E.G E.I) (hIG : ∀ f args H v H' W, E.I f args H = some (v, H', W) → Grw H H' W)
    (hDG : ∀ cf, CfGrw cf → DfGrw (D cf)) (hD : ∀ cf, CfGrw cf → CallOk P E.G cf → DrawOk P E.G (D cf)) : ∀ k, CallOk P E.G (callE E D k)
  | 0 => fun f args H v H' W h => by simp [callE] at h
  | k + 1 => fun f args H v H' W h Fr β w vals hr hg hv => by
    have ih := call_ok hT hF hI hIG hDG hD k
    have ihG := callE_grw hIG hDG k
    simp only [callE] at h
    split at h
    · rename_i r hIf
      injection h with h
      subst h
      exact hI f args H v H' W hIf Fr β w vals hr hg hv
    · split at h
      · cases h
      · rename_i fn hFf
        obtain ⟨hfn, hname⟩ := hF f fn hFf
        split at h
        · cases h
        · rename_i c hbody
          refine .inl ⟨by simp [callFunc, hfn, hbody]; simpa using hname, ?_⟩
          split at h
          · exact calls_of_wp_defers hfn hbody (callD_wp hT hF ihG ih (hDG _ ihG) (hD _ ihG ih) h hr hg hv)
          · exact calls_of_wp hfn hbody (body_wp hT ihG ih (hDG _ ihG) (hD _ ihG ih) h hr hg hv)
end
end Go.Ev
end
