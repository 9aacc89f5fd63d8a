/- The evaluator E: what is found in a map; a new object; an object that turns. -/
import Derived.Test.YtkenfmphlggmcaaDoorQ2

section
namespace Go.Ev
open Go
set_option linter.unusedSimpArgs false
set_option linter.unusedVariables false

section
variable {P : Program} {Fr : Nat → Nat → Prop} {w w' : World} {β : Bt} {H : Heap}

theorem cell_block {w w' : World} {b : Nat} (h : w'.heap[b]? = w.heap[b]?) (o : Nat) : w'.cell? ⟨b, o, none⟩ = w.cell? ⟨b, o, none⟩ := by
  simp [World.cell?, h]

theorem findKey_ok {kt : Nat} {d : TypeDesc} {k : EV} {kv : Value} {es : List (EV × EV)} {ents : List MapEntry} {r : Option (Nat × EV)} (hd : P.underlying kt = some d) (hk : VR Fr w β k kv) (h1 : VRs Fr w β (es.map (·.1)) (ents.map (·.key))) (h2 : VRs Fr w β (es.map (·.2)) (ents.map (·.val)))
    (h : findE (tiOf P) kt k es 0 = some r) : ∃ r', (Instr.findKey kt kv ents).run P w = .ok r' w ∧ Fnd Fr w β r r' := by
  unfold Instr.findKey
  simp only [Sem.run_bind, run_und hd, Result.andThen_ok]
  cases hn : Instr.findNow d kv ents 0 with
  | some q => exact ⟨q, rfl, now_ok hd hk es ents 0 r q h1 h2 h hn⟩
  | none => exact asking_ok hk es ents 0 r h1 h2 h

theorem zeroE_ok {t : Nat} {ti : TI} {z : EV} (ht : tiOf P t = some ti) (h : zeroE ti = some z) : ∃ val, (zeroValue t).run P w = .ok val w ∧ VR Fr w β z val := by
  obtain ⟨i, zv, hi, hs, hb, hz, hc, hl, hag⟩ := (tiOf_ok ht).info
  refine ⟨zv, by unfold zeroValue; simp only [Sem.run_bind, run_typeInfo w hi, Result.andThen_ok, hz]; rfl, ?_⟩
  have hv : VRs Fr w β ti.zero zv.cells.toList := ofCs_VR hc
  unfold zeroE at h
  cases zv with
  | agg cs =>
    simp only [isAggV] at hag
    rw [if_pos hag.symm] at h
    injection h with h
    subst h
    simpa [Value.cells] using VR.agg hv
  | _ =>
    simp only [isAggV] at hag
    rw [← hag, if_neg (by decide)] at h
    split at h
    · rename_i c hcz
      injection h with h
      subst h
      rw [hcz] at hv
      simp only [Value.cells] at hv
      cases hv with | cons hv _ => exact hv
    · cases h

theorem lookup_ok (hr : Rel Fr β H w) {t : Nat} {m k v : EV} {mv kv : Value} {ok : Bool} (hm : VR Fr w β m mv) (hk : VR Fr w β k kv) (h : lookupE (tiOf P) H t m k ok = some v) :
    ∃ val, (Instr.lookup t mv kv ok).run P w = .ok val w ∧ VR Fr w β v val := by
  unfold lookupE at h
  split at h
  · rename_i kt et sz bytes ag zero eq ht
    have hu := (tiOf_ok ht).map
    split at h
    · rename_i te hte
      split at h
      · rename_i hko
        obtain ⟨d, hd⟩ : ∃ d, P.underlying kt = some d := by
          unfold keyOk at hko
          split at hko
          · rename_i ti hti; exact TOk.und' hti
          · cases hko
        unfold Instr.lookup
        simp only [Sem.run_bind, run_und hu, Result.andThen_ok]
        have fin : ∀ (es : List (EV × EV)) (ents : Array MapEntry), VRs Fr w β (es.map (·.1)) (ents.toList.map (·.key)) → VRs Fr w β (es.map (·.2)) (ents.toList.map (·.val)) →
            (match findE (tiOf P) kt k es 0, zeroE te with
              | some (some (_, v)), some _ => some (if ok then .tup [v, .bool true] else v)
              | some none, some z => some (if ok then .tup [z, .bool false] else z)
              | _, _ => none) = some v →
            ∃ val, (do
              Instr.checkKey ents.isEmpty 10000 kt kv
              let (v, ok1) ← match ← Instr.findKey kt kv ents.toList with
                | some (_, v) => pure (v, true)
                | none => pure (← zeroValue et, false)
              pure (if ok then .tuple #[v, .bool ok1] else v) : Sem Value).run P w = .ok val w ∧ VR Fr w β v val := by
          intro es ents h1 h2 h
          simp only [Sem.run_bind, checkKey_ok hk hko, Result.andThen_ok]
          split at h
          · rename_i v' z hf hz
            injection h with h
            subst h
            obtain ⟨r', hr', hf'⟩ := findKey_ok hd hk h1 h2 hf
            cases hf' with
            | some hv =>
              simp only [hr', Result.andThen_ok, Sem.run_pure]
              refine ⟨_, rfl, ?_⟩
              cases ok
              · exact hv
              · exact .tup (.cons hv (.cons .bool .nil))
          · rename_i z hf hz
            injection h with h
            subst h
            obtain ⟨r', hr', hf'⟩ := findKey_ok hd hk h1 h2 hf
            obtain ⟨zv, hzr, hzv⟩ := zeroE_ok (P := P) (w := w) (Fr := Fr) (β := β) hte hz
            cases hf' with
            | none =>
              simp only [hr', Result.andThen_ok, Sem.run_bind, hzr, Sem.run_pure]
              refine ⟨_, rfl, ?_⟩
              cases ok
              · exact hzv
              · exact .tup (.cons hzv (.cons .bool .nil))
          · cases h
        split at h
        · rename_i es hes
          unfold entriesE at hes
          cases hm with
          | nilm =>
            injection hes with hes
            subst hes
            have := fin [] #[] .nil .nil h
            simp only [Sem.run_bind, Sem.run_pure, Result.andThen_ok] at this ⊢
            exact this
          | fm h1 h2 hb hf =>
            injection hes with hes
            subst hes
            have := fin _ _ h1.up h2.up h
            simp only [getObj, Sem.run_bind, Sem.run, hb, Result.andThen_ok, Sem.run_pure] at this ⊢
            exact this
          | map hb =>
            rename_i o b
            simp only at hes
            cases ho : H[o]? with
            | none => simp [ho] at hes
            | some x =>
              cases x with
              | map es' =>
                obtain ⟨ents, clock, hh, h1, h2⟩ := hr.maps _ _ _ _ ho hb
                simp only [ho] at hes
                injection hes with hes
                subst hes
                have := fin es' ents h1 h2 h
                simp only [getObj, Sem.run_bind, Sem.run, hh, Result.andThen_ok, Sem.run_pure] at this ⊢
                exact this
              | _ => simp [ho] at hes
          | _ => simp at hes
        · cases h
      · cases h
    · cases h
  · cases h

/-! ### new objects, objects that turn -/
theorem getElem?_append_one {α : Type} (l : List α) (x : α) (i : Nat) : (l ++ [x])[i]? = if i < l.length then l[i]? else if i = l.length then some x else none := by
  by_cases h : i < l.length
  · simp [h, List.getElem?_append_left h]
  · rw [if_neg h, List.getElem?_append_right (by omega)]
    by_cases h2 : i = l.length
    · subst h2; simp
    · rw [if_neg h2, List.getElem?_eq_none]
      simp; omega

/-- The objects after one more. -/
theorem grown_at {b0 s0 : Nat} {ob : EO} (hl : β.length = H.length) {o b s : Nat} {x : EO} (h : (β ++ [some (b0, s0)])[o]? = some (some (b, s))) (hx : (H ++ [ob])[o]? = some x) :
    (o = H.length ∧ b = b0 ∧ s = s0 ∧ x = ob) ∨ (o < H.length ∧ β[o]? = some (some (b, s)) ∧ H[o]? = some x) := by
  rw [getElem?_append_one] at h hx
  by_cases h1 : o < H.length
  · rw [if_pos (by omega)] at h
    rw [if_pos h1] at hx
    exact .inr ⟨h1, h, hx⟩
  · rw [if_neg (by omega)] at h
    split at h
    · injection h with h
      injection h with h
      injection h with h2 h3
      rw [if_neg h1, if_pos (by omega)] at hx
      injection hx with hx
      exact .inl ⟨by omega, h2.symm, h3.symm, hx.symm⟩
    · cases h
theorem ext_app {x : Option (Nat × Nat)} {o : Nat} {y : Option (Nat × Nat)} (h : β[o]? = some y) : (β ++ [x])[o]? = some y := by
  rw [List.getElem?_append_left (List.getElem?_eq_some_iff.1 h).1]; exact h

/-- A new object, in a new block; and cells of it that stay. -/
theorem Ok.new (hr : Rel Fr β H w) {ob : EO} {obj : Obj} {Fr' : Nat → Nat → Prop} (hF : ∀ b x, Fr' b x ↔ Fr b x ∨ (b = w.heap.size ∧ ¬ ob.owns 0 x)) (hw : w'.heap = w.heap.push obj) (ho : w'.os = w.os) (ht : w'.tape = w.tape) (hp : w'.output = w.output)
    (hc : ∀ cs, ob = .cells cs → ∃ (rc : Array Value) (t : TypeId) (fr : Nat × Nat) (vs : List Value), obj = .cells rc t fr ∧ VRs Fr w β cs vs ∧ ∀ (j : Nat) (v : Value), vs[j]? = some v → rc[0 + j]? = some v ∧ ¬ (fr.1 ≤ 0 + j ∧ 0 + j < fr.2))
    (hm : ∀ es, ob = .map es → es = [] ∧ ∃ clock, obj = .map #[] clock) (htp : ∀ m, ob = .tip m → ∃ (rc : Array Value) (t : TypeId) (fr : Nat × Nat), obj = .cells rc t fr) (hd : ob ≠ .dead) :
    Ok Fr β H w Fr' (β ++ [some (w.heap.size, 0)]) (H ++ [ob]) w' := by
  have hold : ∀ b, b < w.heap.size → w'.heap[b]? = w.heap[b]? := fun b hb => by rw [hw, Array.getElem?_push, if_neg (by omega)]
  have hnew : w'.heap[w.heap.size]? = some obj := by rw [hw]; simp
  have hl := hr.len
  have hsz : w'.heap.size = w.heap.size + 1 := by rw [hw]; simp
  have hext : ∀ (o : Nat) (x : Nat × Nat), β[o]? = some (some x) → (β ++ [some (w.heap.size, 0)])[o]? = some (some x) := fun o x h => ext_app h
  have hFF : ∀ b x, Fr b x → Fr' b x := fun b x h => (hF b x).2 (.inl h)
  have hK : Keep Fr w w' := fun b x hb => ⟨cell_block (hold b (hr.old b x hb)) x, fun ents clock h => (hold b (hr.old b x hb)).trans h⟩
  have hSh : Shape w w' := fun b rc t fr hb => ⟨rc, (hold b (Array.getElem?_eq_some_iff.1 hb).1).trans hb, rfl⟩
  have mono : ∀ {es : List EV} {vs : List Value}, VRs Fr w β es vs → VRs Fr' w' (β ++ [some (w.heap.size, 0)]) es vs := fun h => h.mono hext hFF hK hSh
  have hIm : ∀ b x, b < w.heap.size → ImC (β ++ [some (w.heap.size, 0)]) (H ++ [ob]) b x → ImC β H b x := fun b x hb ⟨o, s, y, h1, h2, h3⟩ => by
    rcases grown_at hl h1 h2 with ⟨_, rfl, _, _⟩ | ⟨_, h4, h5⟩
    · omega
    · exact ⟨o, s, y, h4, h5, h3⟩
  refine ⟨⟨by simp [hl], ?_, ?_, ?_, ?_, ?_, ?_, ?_⟩, hext, fun o h => ext_app h, hFF, ⟨ho, ht, hp, by omega, hSh, fun b hb _ => hold b hb, fun b x hb _ => cell_block (hold b hb) x⟩, ?_, hIm, fun b x hb hf => by
    rcases (hF b x).1 hf with h | ⟨h, _⟩
    · exact .inl h
    · omega⟩
  · intro o cs b s h hb
    rcases grown_at hl hb h with ⟨rfl, rfl, rfl, e⟩ | ⟨h1, h2, h3⟩
    · obtain ⟨rc, t, fr, vs, e, hv, hcc⟩ := hc cs e.symm
      exact ⟨rc, t, fr, vs, by rw [hnew, e], mono hv, hcc⟩
    · obtain ⟨rc, t, fr, vs, hh, hv, hcc⟩ := hr.cells o cs b s h3 h2
      exact ⟨rc, t, fr, vs, (hold b (Array.getElem?_eq_some_iff.1 hh).1).trans hh, mono hv, hcc⟩
  · intro o es b s h hb
    rcases grown_at hl hb h with ⟨rfl, rfl, rfl, e⟩ | ⟨h1, h2, h3⟩
    · obtain ⟨rfl, clock, e⟩ := hm es e.symm
      exact ⟨#[], clock, by rw [hnew, e], .nil, .nil⟩
    · obtain ⟨ents, clock, hh, hv1, hv2⟩ := hr.maps o es b s h3 h2
      exact ⟨ents, clock, (hold b (Array.getElem?_eq_some_iff.1 hh).1).trans hh, mono hv1, mono hv2⟩
  · intro o m b s h hb
    rcases grown_at hl hb h with ⟨rfl, rfl, rfl, e⟩ | ⟨h1, h2, h3⟩
    · obtain ⟨rc, t, fr, e⟩ := htp m e.symm
      exact ⟨rc, t, fr, by rw [hnew, e]⟩
    · obtain ⟨rc, t, fr, hh⟩ := hr.tips o m b s h3 h2
      exact ⟨rc, t, fr, (hold b (Array.getElem?_eq_some_iff.1 hh).1).trans hh⟩
  · intro o b s hb ⟨x, hx, hn⟩
    rcases grown_at hl hb hx with ⟨rfl, rfl, rfl, e⟩ | ⟨h1, h2, h3⟩
    · omega
    · have := hr.live o b s h2 ⟨x, h3, hn⟩
      omega
  · rintro b x ⟨o, s, y, h1, h2, h3⟩ hf
    rcases grown_at hl h1 h2 with ⟨rfl, rfl, rfl, rfl⟩ | ⟨h4, h5, h6⟩
    · rcases (hF _ _).1 hf with hf | ⟨_, hf⟩
      · have := hr.old _ _ hf; omega
      · exact hf h3
    · have hlt : b < w.heap.size := hr.live o b s h5 ⟨y, h6, fun e => by subst e; exact h3⟩
      rcases (hF _ _).1 hf with hf | ⟨hf, _⟩
      · exact hr.free b x ⟨o, s, y, h5, h6, h3⟩ hf
      · omega
  · rintro o o' b s s' h h' ⟨x, hx, hn⟩ ⟨x', hx', hn'⟩
    rcases grown_at hl h hx with ⟨h1, h2, _⟩ | ⟨h1, h2, h3⟩ <;> rcases grown_at hl h' hx' with ⟨k1, k2, _⟩ | ⟨k1, k2, k3⟩
    · omega
    · have := hr.live _ _ _ k2 ⟨_, k3, hn'⟩; omega
    · have := hr.live _ _ _ h2 ⟨_, h3, hn⟩; omega
    · exact hr.inj o o' b s s' h2 k2 ⟨_, h3, hn⟩ ⟨_, k3, hn'⟩
  · intro b x hb
    rcases (hF _ _).1 hb with hb | ⟨hb, _⟩
    · have := hr.old b x hb; omega
    · omega
  · rintro b hb ⟨o, s, h, ⟨x, hx, hn⟩⟩
    rcases grown_at hl h hx with ⟨_, rfl, _⟩ | ⟨_, h2, h3⟩
    · omega
    · exact ⟨o, s, h2, x, h3, hn⟩

/-- An object turns, in its own block. -/
theorem Ok.turn (hr : Rel Fr β H w) {o b s : Nat} {ob : EO} {obj : Obj} (hb : β[o]? = some (some (b, s))) (ha : ∃ x, H[o]? = some x ∧ x ≠ .dead ∧ (∀ m, x = .tip m → ob = .dead)) (hob : ∀ m, ob ≠ .tip m) (hsz : w'.heap.size = w.heap.size) (hnew : w'.heap[b]? = some obj) (hold : ∀ k, k ≠ b → w'.heap[k]? = w.heap[k]?) (hsh : ∀ (rc : Array Value) (t : TypeId) (fr : Nat × Nat), w.heap[b]? = some (Obj.cells rc t fr) → ∃ rc' : Array Value, obj = .cells rc' t fr ∧ rc'.size = rc.size)
    (hdd : ob = .dead → w'.heap[b]? = w.heap[b]?) (ho : w'.os = w.os) (ht : w'.tape = w.tape) (hp : w'.output = w.output)
    (hc : ∀ cs, ob = .cells cs → ∃ (rc : Array Value) (t : TypeId) (fr : Nat × Nat) (vs : List Value), obj = .cells rc t fr ∧ VRs Fr w β cs vs ∧ ∀ (j : Nat) (v : Value), vs[j]? = some v → rc[s + j]? = some v ∧ ¬ (fr.1 ≤ s + j ∧ s + j < fr.2))
    (hm : ∀ es, ob = .map es → ∃ (ents : Array MapEntry) (clock : Nat), obj = .map ents clock ∧ VRs Fr w β (es.map (·.1)) (ents.toList.map (·.key)) ∧ VRs Fr w β (es.map (·.2)) (ents.toList.map (·.val))) :
    Ok Fr β H w Fr β (H.set o ob) w' := by
  obtain ⟨x0, hx0, hnd, hxt⟩ := ha
  have hal0 : alive H o := ⟨x0, hx0, hnd⟩
  have hblt := hr.live o b s hb hal0
  have holt : o < H.length := (List.getElem?_eq_some_iff.1 hx0).1
  -- the block's cells may be written, unless nothing of it is
  have hown : ob ≠ .dead → ∀ x, ImC β H b x := fun hne x => ⟨o, s, x0, hb, hx0, by
    cases x0 with
    | dead => exact absurd rfl hnd
    | tip m => exact absurd (hxt m rfl) hne
    | _ => trivial⟩
  have hcell : ∀ k x, ¬ ImC β H k x → w'.cell? ⟨k, x, none⟩ = w.cell? ⟨k, x, none⟩ := fun k x hn => by
    by_cases e : k = b
    · subst e
      by_cases hd : ob = .dead
      · exact cell_block (hdd hd) x
      · exact absurd (hown hd x) hn
    · exact cell_block (hold k e) x
  have hK : Keep Fr w w' := fun k x hk => by
    refine ⟨hcell k x (fun hi => hr.free k x hi hk), fun ents clock h => ?_⟩
    by_cases e : k = b
    · subst e
      by_cases hd : ob = .dead
      · rw [hdd hd]; exact h
      · exact absurd hk (hr.free k x (hown hd x))
    · exact (hold k e).trans h
  have hSh : Shape w w' := fun k rc t fr hk => by
    by_cases e : k = b
    · subst e
      obtain ⟨rc', e1, e2⟩ := hsh rc t fr hk
      exact ⟨rc', by rw [hnew, e1], e2⟩
    · exact ⟨rc, (hold k e).trans hk, rfl⟩
  have mono : ∀ {es : List EV} {vs : List Value}, VRs Fr w β es vs → VRs Fr w' β es vs := fun h => h.mono (fun _ _ h => h) (fun _ _ h => h) hK hSh
  have hset : ∀ (o' : Nat) (x : EO), (H.set o ob)[o']? = some x → (o' = o ∧ x = ob) ∨ (o' ≠ o ∧ H[o']? = some x) := by
    intro o' x hx
    rw [List.getElem?_set] at hx
    split at hx
    · rename_i e
      subst e
      try rw [if_pos holt] at hx
      injection hx with hx
      exact .inl ⟨rfl, hx.symm⟩
    · rename_i e
      exact .inr ⟨fun e' => e e'.symm, hx⟩
  have hal : ∀ o', alive (H.set o ob) o' → alive H o' := by
    rintro o' ⟨x, hx, hn⟩
    rcases hset o' x hx with ⟨rfl, rfl⟩ | ⟨_, h⟩
    · exact hal0
    · exact ⟨x, h, hn⟩
  have himc : ∀ k x, ImC β (H.set o ob) k x → ImC β H k x := by
    rintro k x ⟨o', s', y, h1, h2, h3⟩
    rcases hset o' y h2 with ⟨rfl, rfl⟩ | ⟨_, h⟩
    · rw [hb] at h1
      injection h1 with h1
      injection h1 with h1
      injection h1 with e1 e2
      subst e1
      exact hown (fun e => by subst e; exact h3) x
    · exact ⟨o', s', y, h1, h, h3⟩
  refine ⟨⟨by simp [hr.len], ?_, ?_, ?_, ?_, ?_, ?_, ?_⟩, fun _ _ h => h, fun _ h => h, fun _ _ h => h, ⟨ho, ht, hp, by omega, hSh, fun k _ hn => hold k (fun e => hn ⟨o, s, e ▸ hb, hal0⟩), fun k x _ hn => hcell k x hn⟩, ?_, fun k x _ h => himc k x h, fun _ _ _ h => .inl h⟩
  · intro o' cs b' s' h hb'
    rcases hset o' _ h with ⟨rfl, e⟩ | ⟨hne, h⟩
    · rw [hb] at hb'
      injection hb' with hb'
      injection hb' with hb'
      injection hb' with e1 e2
      subst e1; subst e2
      obtain ⟨rc, t, fr, vs, e, hv, hcc⟩ := hc cs e.symm
      exact ⟨rc, t, fr, vs, by rw [hnew, e], mono hv, hcc⟩
    · obtain ⟨rc, t, fr, vs, hh, hv, hcc⟩ := hr.cells o' cs b' s' h hb'
      have : b' ≠ b := fun e => by subst e; exact hne (hr.inj o' o _ _ _ hb' hb ⟨_, h, by simp⟩ hal0)
      exact ⟨rc, t, fr, vs, (hold _ this).trans hh, mono hv, hcc⟩
  · intro o' es b' s' h hb'
    rcases hset o' _ h with ⟨rfl, e⟩ | ⟨hne, h⟩
    · rw [hb] at hb'
      injection hb' with hb'
      injection hb' with hb'
      injection hb' with e1 e2
      subst e1; subst e2
      obtain ⟨ents, clock, e, h1, h2⟩ := hm es e.symm
      exact ⟨ents, clock, by rw [hnew, e], mono h1, mono h2⟩
    · obtain ⟨ents, clock, hh, h1, h2⟩ := hr.maps o' es b' s' h hb'
      have : b' ≠ b := fun e => by subst e; exact hne (hr.inj o' o _ _ _ hb' hb ⟨_, h, by simp⟩ hal0)
      exact ⟨ents, clock, (hold _ this).trans hh, mono h1, mono h2⟩
  · intro o' m b' s' h hb'
    rcases hset o' _ h with ⟨rfl, e⟩ | ⟨hne, h⟩
    · exact absurd e.symm (hob m)
    · obtain ⟨rc, t, fr, hh⟩ := hr.tips o' m b' s' h hb'
      have : b' ≠ b := fun e => by subst e; exact hne (hr.inj o' o _ _ _ hb' hb ⟨_, h, by simp⟩ hal0)
      exact ⟨rc, t, fr, (hold _ this).trans hh⟩
  · intro o' b' s' hb' ha'
    have := hr.live o' b' s' hb' (hal o' ha')
    omega
  · exact fun k x hi hf => hr.free k x (himc k x hi) hf
  · exact fun o1 o2 b' s1 s2 h1 h2 a1 a2 => hr.inj o1 o2 b' s1 s2 h1 h2 (hal _ a1) (hal _ a2)
  · intro k x hk
    have := hr.old k x hk
    omega
  · exact fun k _ ⟨o', s', h, ha'⟩ => ⟨o', s', h, hal o' ha'⟩

end
end Go.Ev
end

/- The evaluator E: operations that make or write an object: alloc, box, store, a map's. -/
section
namespace Go.Ev
open Go
set_option linter.unusedSimpArgs false
set_option linter.unusedVariables false

section
variable {P : Program} {Fr : Nat → Nat → Prop} {w w' : World} {β : Bt} {H : Heap}

theorem new_at (hr : Rel Fr β H w) (x : Nat × Nat) : (β ++ [some x])[H.length]? = some (some x) := by
  rw [getElem?_append_one, if_neg (by rw [hr.len]; omega), if_pos hr.len.symm]

theorem Ok.newCells (hr : Rel Fr β H w) {cs : List EV} {vs : List Value} (rc : Array Value) (t : TypeId) (hv : VRs Fr w β cs vs) (hrc : ∀ (j : Nat) (v : Value), vs[j]? = some v → rc[j]? = some v) :
    Ok Fr β H w Fr (β ++ [some (w.heap.size, 0)]) (H ++ [.cells cs]) { w with heap := w.heap.push (.cells rc t) } :=
  Ok.new hr (fun b x => by simp [EO.owns]) rfl rfl rfl rfl (fun cs' e => by injection e with e; subst e; exact ⟨rc, t, (0, 0), vs, rfl, hv, fun j v h => ⟨by rw [Nat.zero_add]; exact hrc j v h, by simp⟩⟩) (fun es e => by cases e) (fun m e => by cases e) (by simp)

theorem Ok.newMap (hr : Rel Fr β H w) (c : Nat) : Ok Fr β H w Fr (β ++ [some (w.heap.size, 0)]) (H ++ [.map []]) { w with heap := w.heap.push (.map #[] c) } :=
  Ok.new hr (fun b x => by simp [EO.owns]) rfl rfl rfl rfl (fun cs' e => by cases e) (fun es e => by injection e with e; exact ⟨e.symm, c, rfl⟩) (fun m e => by cases e) (by simp)

/-- What an operation does: a value, a heap. -/
def Does (Fr : Nat → Nat → Prop) (β : Bt) (H : Heap) (w : World) (r : Result Value) (v : EV) (H' : Heap) : Prop :=
  ∃ (val : Value) (w' : World) (Fr' : Nat → Nat → Prop) (β' : Bt), r = .ok val w' ∧ Ok Fr β H w Fr' β' H' w' ∧ VR Fr' w' β' v val

theorem alloc_ok (hr : Rel Fr β H w) {e : Nat} {te : TI} (ht : tiOf P e = some te) : Does Fr β H w ((Instr.alloc e true (.tuple #[])).run P w) (.ptr H.length 0) (H ++ [.cells te.zero]) := by
  obtain ⟨z, hz, hv⟩ := (tiOf_ok ht).zero (Fr := Fr) (β := β) w
  refine ⟨.pointer (some ⟨w.heap.size, 0, none⟩), _, _, _, ?_, Ok.newCells hr z.cells e hv (fun j v h => by simpa using h), .ptr (s := 0) (i := 0) (new_at hr _)⟩
  simp only [Instr.alloc, Sem.run_bind, hz, Result.andThen_ok, newVar, newRow, run_newObj, Sem.run_pure]

theorem box_ok (hr : Rel Fr β H w) {e : Nat} {x : EV} {xv : Value} (hx : VR Fr w β x xv) : Does Fr β H w ((Instr.box e xv).run P w) (.ptr H.length 0) (H ++ [.cells (cellsOf x)]) := by
  refine ⟨.pointer (some ⟨w.heap.size, 0, none⟩), _, _, _, ?_, Ok.newCells hr xv.cells e hx.cells (fun j v h => by simpa using h), .ptr (s := 0) (i := 0) (new_at hr _)⟩
  simp only [Instr.box, Sem.run_bind, newVar, newRow, run_newObj, Result.andThen_ok, Sem.run_pure]

theorem makeMap_ok (hr : Rel Fr β H w) {t : Nat} : Does Fr β H w ((Instr.makeMap t none).run P w) (.map H.length) (H ++ [.map []]) := by
  refine ⟨.map (some w.heap.size), _, _, _, ?_, Ok.newMap hr 0, .map (new_at hr _)⟩
  simp only [Instr.makeMap, Sem.run_bind, run_newObj, Result.andThen_ok, Sem.run_pure]

/-! ### storing -/
theorem setCell_block {w : World} {b x : Nat} {rc : Array Value} {t : TypeId} {fr : Nat × Nat} {v : Value} (h : w.heap[b]? = some (Obj.cells rc t fr)) :
    (w.setCell ⟨b, x, none⟩ v).heap[b]? = some (Obj.cells (rc.setIfInBounds x v) t fr) ∧ ∀ k, k ≠ b → (w.setCell ⟨b, x, none⟩ v).heap[k]? = w.heap[k]? := by
  refine ⟨?_, fun k hk => ?_⟩
  · simp [World.setCell, Array.getElem?_modify, h]
  · simp only [World.setCell, Array.getElem?_modify]
    rw [if_neg (fun e => hk e.symm)]

structure Wrote (b s : Nat) (vs : List Value) (rc : Array Value) (t : TypeId) (fr : Nat × Nat) (w w' : World) : Prop where
  blk : ∃ rc' : Array Value, w'.heap[b]? = some (Obj.cells rc' t fr) ∧ rc'.size = rc.size ∧ (∀ x, rc'[x]? = if s ≤ x ∧ x < s + vs.length then vs[x - s]? else rc[x]?)
  other : ∀ k, k ≠ b → w'.heap[k]? = w.heap[k]?
  size : w'.heap.size = w.heap.size
  os : w'.os = w.os
  tape : w'.tape = w.tape
  output : w'.output = w.output

theorem run_storeCells {b s : Nat} {t : TypeId} {fr : Nat × Nat} : ∀ (vs : List Value) (i : Nat) (rc : Array Value) (w : World), w.heap[b]? = some (Obj.cells rc t fr) →
    s + i + vs.length ≤ rc.size → (∀ y, s + i ≤ y → y < s + i + vs.length → ¬ (fr.1 ≤ y ∧ y < fr.2)) → (∀ v ∈ vs, oneV v = true) →
    ∃ w', (storeCells ⟨b, s, none⟩ vs i).run P w = .ok () w' ∧ Wrote b (s + i) vs rc t fr w w' := by
  intro vs
  induction vs with
  | nil =>
    intro i rc w hb hl hf ho
    refine ⟨w, rfl, ⟨rc, hb, rfl, fun x => by rw [if_neg (by simp only [List.length_nil]; omega)]⟩, fun _ _ => rfl, rfl, rfl, rfl, rfl⟩
  | cons v vs ih =>
    intro i rc w hb hl hf ho
    simp only [List.length_cons] at hl hf
    have hc : w.cell? ⟨b, s + i, none⟩ = some (rc[s + i]'(by omega)) := by
      simp [World.cell?, hb]
    have hfz : w.frozen? ⟨b, s + i, none⟩ = false := by
      have := hf (s + i) (by omega) (by omega)
      simp only [World.frozen?, hb]
      obtain ⟨lo, hi⟩ := fr
      simpa using this
    have hone : v.oneCell' = true := by
      have := ho v (by simp)
      cases v <;> first | rfl | cases this
    obtain ⟨hs1, hs2⟩ := setCell_block (x := s + i) (v := v) hb
    obtain ⟨w', hrun, hw⟩ := ih (i + 1) _ (w.setCell ⟨b, s + i, none⟩ v) hs1 (by simp; omega) (fun y h1 h2 => hf y (by omega) (by omega)) (fun u hu => ho u (by simp [hu]))
    refine ⟨w', ?_, ?_⟩
    · simp only [storeCells, Sem.run_bind, addr_add, run_store P w _ v _ hone, hc, hfz, Bool.false_eq_true, if_false, Result.andThen_ok]
      exact hrun
    · obtain ⟨rc', h1, h2, h3⟩ := hw.blk
      refine ⟨⟨rc', h1, by simpa using h2, fun x => ?_⟩, fun k hk => (hw.other k hk).trans (hs2 k hk), by rw [hw.size]; simp [World.setCell], hw.os, hw.tape, hw.output⟩
      rw [h3]
      simp only [List.length_cons]
      by_cases e : x = s + i
      · subst e
        rw [if_neg (by omega), if_pos (by omega)]
        simp [Array.getElem?_setIfInBounds]
        omega
      · by_cases e2 : s + (i + 1) ≤ x ∧ x < s + (i + 1) + vs.length
        · rw [if_pos e2, if_pos (by omega)]
          obtain ⟨j, hj⟩ : ∃ j, x - (s + i) = j + 1 := ⟨x - (s + i) - 1, by omega⟩
          rw [hj, List.getElem?_cons_succ]
          congr 1
          omega
        · rw [if_neg e2, if_neg (by omega), Array.getElem?_setIfInBounds_ne (by omega)]

theorem getElem?_splice {α : Type} (l u : List α) (i j : Nat) (h : i + u.length ≤ l.length) : (l.take i ++ u ++ l.drop (i + u.length))[j]? = if i ≤ j ∧ j < i + u.length then u[j - i]? else l[j]? := by
  have hl : (l.take i).length = i := by simp; omega
  by_cases h1 : j < i
  · rw [if_neg (by omega), List.append_assoc, List.getElem?_append_left (by omega), List.getElem?_take, if_pos h1]
  · by_cases h2 : j < i + u.length
    · rw [if_pos (by omega), List.append_assoc, List.getElem?_append_right (by omega), hl, List.getElem?_append_left (by omega)]
    · rw [if_neg (by omega), List.append_assoc, List.getElem?_append_right (by omega), hl, List.getElem?_append_right (by omega), List.getElem?_drop]
      congr 1
      omega

/-- Cells written into an object of one's own. -/
theorem Ok.wrote (hr : Rel Fr β H w) {o b s i : Nat} {cs us : List EV} {vals : List Value} {rc : Array Value} {t : TypeId} {fr : Nat × Nat} (ho : H[o]? = some (EO.cells cs)) (hb : β[o]? = some (some (b, s)))
    (hrc : w.heap[b]? = some (Obj.cells rc t fr)) (hv : VRs Fr w β us vals) (hl : i + us.length ≤ cs.length) (hw : Wrote b (s + i) vals rc t fr w w') : Ok Fr β H w Fr β (H.set o (.cells (splice cs i us))) w' := by
  obtain ⟨rc0, t0, fr0, vs, hh, hvs, hcc⟩ := hr.cells o cs b s ho hb
  rw [hrc] at hh
  injection hh with hh
  injection hh with e1 e2 e3
  subst e1; subst e2; subst e3
  obtain ⟨rc', h1, h2, h3⟩ := hw.blk
  have hlv := hvs.length
  have hlu := hv.length
  refine Ok.turn hr hb ⟨_, ho, by simp, fun m e => by cases e⟩ (fun m e => by cases e) hw.size h1 hw.other (fun rc0 t0 fr0 h => ?_) (fun e => by cases e) hw.os hw.tape hw.output (fun cs' e => ?_) (fun es e => by cases e)
  · rw [hrc] at h
    injection h with h
    injection h with e1 e2 e3
    subst e1; subst e2; subst e3
    exact ⟨rc', rfl, h2⟩
  · injection e with e
    subst e
    refine ⟨rc', t, fr, _, rfl, hvs.splice i hv, fun j v hj => ?_⟩
    rw [getElem?_splice _ _ _ _ (by omega)] at hj
    rw [h3]
    split at hj
    · rename_i hin
      rw [if_pos (by omega)]
      refine ⟨?_, ?_⟩
      · rw [show s + j - (s + i) = j - i by omega]; exact hj
      · have : j < vs.length := by omega
        exact (hcc j _ (List.getElem?_eq_getElem this)).2
    · rename_i hin
      rw [if_neg (by omega)]
      exact hcc j v hj

theorem store_ok (hr : Rel Fr β H w) {t : Nat} {p v : EV} {pv vv : Value} {H' : Heap} {W : List Nat} (hp : VR Fr w β p pv) (hv : VR Fr w β v vv) (h : storeE (tiOf P) H t p v = some (H', W)) :
    ∃ w', (Instr.storeAt t pv vv).run P w = .ok () w' ∧ Ok Fr β H w Fr β H' w' := by
  unfold storeE at h
  split at h
  · rename_i ti o i ht
    split at h
    · rename_i cs ho
      split at h
      · rename_i hc
        obtain ⟨hc1, hc2, hc3⟩ := hc
        injection h with h
        injection h with h h'
        subst h
        cases hp with
        | ptr hb =>
          rename_i b s
          obtain ⟨rc, ty, fr, vs, hh, hvs, hcc⟩ := hr.cells o cs b s ho hb
          have hcv := hv.cells
          have hlc := hcv.length
          have hlv := hvs.length
          have hrs : ∀ j, j < vs.length → s + j < rc.size ∧ ¬ (fr.1 ≤ s + j ∧ s + j < fr.2) := fun j hj => by
            have := hcc j _ (List.getElem?_eq_getElem hj)
            exact ⟨(Array.getElem?_eq_some_iff.1 this.1).1, this.2⟩
          by_cases hz : vv.cells.toList.length = 0
          · -- nothing to write
            have hn : vv.cells.toList = [] := List.length_eq_zero_iff.1 hz
            obtain ⟨w', hrun, hw⟩ : ∃ w', (storeCells ⟨b, s + i, none⟩ vv.cells.toList 0).run P w = .ok () w' ∧ Wrote b (s + i + 0) vv.cells.toList rc ty fr w w' := by
              rw [hn]
              exact ⟨w, rfl, ⟨rc, hh, rfl, fun x => by rw [if_neg (by simp only [List.length_nil]; omega)]⟩, fun _ _ => rfl, rfl, rfl, rfl, rfl⟩
            refine ⟨w', ?_, Ok.wrote hr ho hb hh hcv (by omega) (by simpa using hw)⟩
            simp only [Instr.storeAt, Instr.sureAddr, Sem.run_bind, Sem.run_pure, Result.andThen_ok, storeVar, (tiOf_ok ht).size]
            rw [if_neg (by simp at hlc ⊢; omega)]
            exact hrun
          · obtain ⟨w', hrun, hw⟩ := run_storeCells (P := P) (b := b) (s := s + i) vv.cells.toList 0 rc w hh (by have := (hrs (i + vv.cells.toList.length - 1) (by omega)).1; omega)
              (fun y h1 h2 => by
                have := (hrs (y - s) (by omega)).2
                rw [show s + (y - s) = y by omega] at this
                exact this) (hcv.ones hc3)
            refine ⟨w', ?_, Ok.wrote hr ho hb hh hcv (by omega) (by simpa using hw)⟩
            simp only [Instr.storeAt, Instr.sureAddr, Sem.run_bind, Sem.run_pure, Result.andThen_ok, storeVar, (tiOf_ok ht).size]
            rw [if_neg (by simp at hlc ⊢; omega)]
            exact hrun
      · cases h
    · cases h
  · cases h

/-! ### a map's entry -/
theorem eqS_true {T : TT} {t : Nat} {x y : EV} (h : eqS T t x y = some true) : x = y := by
  unfold eqS at h
  split at h
  · split at h
    · split at h
      · rename_i hk
        subst hk
        simp at h
        rw [h]
      · cases h
    · simp at h; rw [h]
    · injection h with h; rw [eq_of_beq h]
    · cases h
  · cases h
theorem eqL_true {T : TT} : ∀ {ts : List Nat} {xs ys : List EV}, eqL T ts xs ys = some true → xs = ys := by
  intro ts
  induction ts with
  | nil =>
    intro xs ys h
    cases xs <;> cases ys <;> simp [eqL] at h ⊢
  | cons t ts ih =>
    intro xs ys h
    cases xs with
    | nil => cases ys <;> simp [eqL] at h
    | cons x xs =>
      cases ys with
      | nil => simp [eqL] at h
      | cons y ys =>
        simp only [eqL] at h
        split at h
        · rename_i e
          rw [eqS_true e, ih h]
        · cases h
        · cases h
theorem eqE_true {T : TT} {t : Nat} {x y : EV} (hk : keyOk T t x = true) (h : eqE T t x y = some true) : x = y := by
  unfold eqE at h
  unfold keyOk at hk
  split at h
  · rename_i ti ht
    rw [ht] at hk
    simp only at hk
    split at h
    · split at h
      · rename_i hk
        subst hk
        simp at h
        rw [h]
      · cases h
    · simp at h; rw [h]
    · injection h with h; rw [eq_of_beq h]
    · split at h
      · rw [eqL_true h]
      · cases h
    · split at h
      · rw [eqL_true h]
      · cases h
    all_goals first | (simp_all; done) | cases h
  · cases h

theorem find_key {T : TT} {kt : Nat} {k : EV} (hk : keyOk T kt k = true) : ∀ (es : List (EV × EV)) (n i : Nat) (v : EV), findE T kt k es n = some (some (i, v)) → n ≤ i ∧ i - n < es.length ∧ es[i - n]? = some (k, v) := by
  intro es
  induction es with
  | nil => intro n i v h; simp [findE] at h
  | cons e es ih =>
    intro n i v h
    simp only [findE] at h
    split at h
    · rename_i he
      injection h with h
      injection h with h
      injection h with h1 h2
      subst h1
      refine ⟨Nat.le_refl _, by simp, ?_⟩
      rw [Nat.sub_self, eqE_true hk he, ← h2]
      rfl
    · obtain ⟨h1, h2, h3⟩ := ih _ _ _ h
      refine ⟨by omega, by simp; omega, ?_⟩
      rw [show i - n = (i - (n + 1)) + 1 by omega, List.getElem?_cons_succ]
      exact h3
    · cases h

theorem map_modify_set {α γ : Type} (g : α → γ) (f : α → α) (l : List α) (i : Nat) (c : γ) (h : ∀ a, l[i]? = some a → g (f a) = c) : (l.modify i f).map g = (l.map g).set i c := by
  apply List.ext_getElem?
  intro j
  simp only [List.getElem?_map, List.getElem?_modify, List.getElem?_set]
  by_cases e : i = j
  · subst e
    simp only [if_true, List.length_map]
    cases hj : l[i]? with
    | none =>
      rw [List.getElem?_eq_none_iff] at hj
      rw [if_neg (by omega)]
      rfl
    | some a =>
      rw [if_pos (List.getElem?_eq_some_iff.1 hj).1]
      simp [h a hj]
  · rw [if_neg e]
    cases hj : l[j]? <;> simp [e]

theorem run_setObj {r : Nat} {es : Array MapEntry} {clock : Nat} (o : Obj) (hb : w.heap[r]? = some (.map es clock)) : (setObj r o).run P w = .ok () { w with heap := w.heap.setIfInBounds r o } := by
  simp [setObj, Sem.run, hb]

theorem Ok.putMap (hr : Rel Fr β H w) {o b d : Nat} {es es' : List (EV × EV)} {ents ents' : Array MapEntry} {clock clock' : Nat} (ho : H[o]? = some (EO.map es)) (hb : β[o]? = some (some (b, 0))) (hh : w.heap[b]? = some (.map ents clock))
    (h1 : VRs Fr w β (es'.map (·.1)) (ents'.toList.map (·.key))) (h2 : VRs Fr w β (es'.map (·.2)) (ents'.toList.map (·.val))) :
    Ok Fr β H w Fr β (H.set o (.map es')) { w with heap := w.heap.setIfInBounds b (.map ents' clock'), drawn := d } := by
  have hlt : b < w.heap.size := (Array.getElem?_eq_some_iff.1 hh).1
  refine Ok.turn hr hb ⟨_, ho, by simp, fun m e => by cases e⟩ (fun m e => by cases e) (by simp) (obj := .map ents' clock') (by simp [Array.getElem?_setIfInBounds, hlt]) (fun k hk => Array.getElem?_setIfInBounds_ne (fun e => hk e.symm)) (fun rc t fr h => by rw [hh] at h; cases h) (fun e => by cases e) rfl rfl rfl (fun cs e => by cases e) (fun es0 e => ?_)
  injection e with e
  subst e
  exact ⟨ents', clock', rfl, h1, h2⟩

theorem update_ok (hr : Rel Fr β H w) {t : Nat} {m k v : EV} {mv kv vv : Value} {H' : Heap} {W : List Nat} (hm : VR Fr w β m mv) (hk : VR Fr w β k kv) (hv : VR Fr w β v vv) (h : updateE (tiOf P) H t m k v = some (H', W)) :
    ∃ w', (Instr.mapUpdate t mv kv vv).run P w = .ok () w' ∧ Ok Fr β H w Fr β H' w' := by
  unfold updateE at h
  split at h
  · rename_i kt et sz bytes ag zero eq o ht
    have hu := (tiOf_ok ht).map
    split at h
    · rename_i es ho
      split at h
      · rename_i hko
        obtain ⟨d, hd⟩ : ∃ d, P.underlying kt = some d := by
          unfold keyOk at hko
          split at hko
          · rename_i ti hti; exact TOk.und' hti
          · cases hko
        cases hm with
        | map hb =>
          rename_i b
          obtain ⟨ents, clock, hh, h1, h2⟩ := hr.maps _ _ _ _ ho hb
          have hl1 := h1.length
          unfold Instr.mapUpdate
          simp only [Sem.run_bind, run_und hu, Result.andThen_ok, getObj, Sem.run, hh, checkKey_ok hk hko]
          split at h
          · rename_i i u hf
            injection h with h
            injection h with h h'
            subst h
            obtain ⟨hge, hlt, hat⟩ := find_key hko es 0 i u hf
            rw [Nat.sub_zero] at hlt hat
            obtain ⟨r', hr', hf'⟩ := findKey_ok (P := P) hd hk h1 h2 hf
            cases hf' with
            | some hv' =>
              rename_i uv
              simp only [hr', Result.andThen_ok, Sem.run_bind]
              -- the key that stays says the same
              obtain ⟨ok, hok⟩ : ∃ ok, ents[i]? = some ok := by
                have : i < ents.size := by simp at hl1; omega
                exact ⟨_, Array.getElem?_eq_getElem this⟩
              have hold : VR Fr w β k ok.key := by
                obtain ⟨v0, e0, hr0⟩ := h1.get (i := i) (e := k) (by simp [hat])
                have : (ents.toList.map (·.key))[i]? = some ok.key := by simp [hok]
                rw [e0] at this
                injection this with this
                rw [← this]
                exact hr0
              have fin : ∀ (key : Value) (dr : Nat), VR Fr w β k key → ∃ w', (setObj b (.map (ents.modify i fun e => { e with key := key, val := vv }) clock)).run P { w with drawn := dr } = .ok () w' ∧ Ok Fr β H w Fr β (H.set o (.map (es.set i (k, v)))) w' := by
                intro key dr hkey
                refine ⟨_, run_setObj (w := { w with drawn := dr }) _ hh, Ok.putMap hr ho hb hh ?_ ?_⟩
                · rw [List.map_set, Array.toList_modify, map_modify_set MapEntry.key (fun e => { e with key := key, val := vv }) ents.toList i key (fun a _ => rfl)]
                  exact h1.set i hkey
                · rw [List.map_set, Array.toList_modify, map_modify_set MapEntry.val (fun e => { e with key := key, val := vv }) ents.toList i vv (fun a _ => rfl)]
                  exact h2.set i hv
              simp only [hok, Option.map_some, Option.getD_some, Instr.keyThatStays, Sem.run_ite, Sem.run_pure, Sem.run_bind, run_choose, Question.forced]
              split
              · simp only [Result.andThen_ok]
                exact fin kv w.drawn hk
              · simp only [show decide (2 = 1) = false from rfl, Bool.false_eq_true, if_false, Result.andThen_ok]
                exact fin _ _ (by split <;> assumption)
          · rename_i hf
            injection h with h
            injection h with h h'
            subst h
            obtain ⟨r', hr', hf'⟩ := findKey_ok (P := P) hd hk h1 h2 hf
            cases hf' with
            | none =>
              simp only [hr', Result.andThen_ok]
              refine ⟨_, run_setObj _ hh, ?_⟩
              refine Ok.putMap (d := w.drawn) hr ho hb hh ?_ ?_
              · simp only [List.map_append, Array.toList_push]
                exact h1.append (.cons hk .nil)
              · simp only [List.map_append, Array.toList_push]
                exact h2.append (.cons hv .nil)
          · cases h
      · cases h
    · cases h
  · cases h

end
end Go.Ev
end

/- The evaluator E: building: build, buildSlice, makeSlice. -/
section
namespace Go.Ev
open Go
set_option linter.unusedSimpArgs false
set_option linter.unusedVariables false

section
variable {P : Program} {Fr : Nat → Nat → Prop} {w w' : World} {β : Bt} {H : Heap}

theorem fold_set (off : Nat) : ∀ (l : List Value) (k : Nat) (cs : Array Value), off + k + l.length ≤ cs.size →
    ((l.zipIdx k).foldl (fun cs (x : Value × Nat) => match x with | (c, j) => cs.setIfInBounds (off + j) c) cs).toList = cs.toList.take (off + k) ++ l ++ cs.toList.drop (off + k + l.length) := by
  intro l
  induction l with
  | nil => intro k cs h; simp
  | cons a l ih =>
    intro k cs h
    simp only [List.length_cons] at h
    simp only [List.zipIdx_cons, List.foldl_cons]
    rw [ih (k + 1) _ (by simp; omega)]
    apply List.ext_getElem?
    intro j
    have e1 := getElem?_splice (cs.toList) (a :: l) (off + k) j (by simp; omega)
    have e2 := getElem?_splice ((cs.setIfInBounds (off + k) a).toList) l (off + (k + 1)) j (by simp; omega)
    rw [e1, e2]
    simp only [List.length_cons]
    by_cases h1 : j = off + k
    · subst h1
      rw [if_neg (by omega), if_pos (by omega)]
      have : off + k < cs.size := by omega
      simp [this]
    · by_cases h2 : off + (k + 1) ≤ j ∧ j < off + (k + 1) + l.length
      · rw [if_pos h2, if_pos (by omega)]
        obtain ⟨i, hi⟩ : ∃ i, j - (off + k) = i + 1 := ⟨j - (off + k) - 1, by omega⟩
        rw [hi, List.getElem?_cons_succ]
        congr 1
        omega
      · rw [if_neg h2, if_neg (by omega)]
        have : ¬ off + k = j := fun e => h1 e.symm
        simp [List.getElem?_set, this]

theorem fill_ok {pl pl' : Nat → Option (Nat × Nat)} (hpp : ∀ i, pl i = pl' i) : ∀ (ps : List (Nat × EV)) (pv : List (Nat × Value)) (qs : List (Nat × Nat × EV)) (cs cs' : List EV) (arr : Array Value), ps.map (·.1) = pv.map (·.1) → VRs Fr w β (ps.map (·.2)) (pv.map (·.2)) →
    placesE pl ps = some qs → fillE qs cs = some cs' → VRs Fr w β cs arr.toList → ∃ arr', Instr.fill pl' arr pv = some arr' ∧ VRs Fr w β cs' arr'.toList := by
  intro ps
  induction ps with
  | nil =>
    intro pv qs cs cs' arr h1 h2 h3 h4 h5
    cases pv with
    | nil =>
      simp only [placesE] at h3
      injection h3 with h3
      subst h3
      simp only [fillE] at h4
      injection h4 with h4
      subst h4
      exact ⟨arr, rfl, h5⟩
    | cons _ _ => simp at h1
  | cons p ps ih =>
    intro pv qs cs cs' arr h1 h2 h3 h4 h5
    obtain ⟨i, v⟩ := p
    cases pv with
    | nil => simp at h1
    | cons q pv =>
      obtain ⟨i', vv⟩ := q
      simp only [List.map_cons, List.cons.injEq] at h1 h2
      obtain ⟨rfl, h1⟩ := h1
      cases h2 with
      | cons hv h2 =>
        simp only [placesE] at h3
        split at h3
        · rename_i off sz qs' e1 e2
          injection h3 with h3
          subst h3
          simp only [fillE] at h4
          split at h4
          · rename_i hc
            have hcv := hv.cells
            have hlc := hcv.length
            have hla := h5.length
            have hsz : vv.cells.size = sz := by simp at hlc; omega
            simp only [Instr.fill, ← hpp, e1]
            have hlA : arr.size = cs.length := by simp at hla; omega
            simp only [hsz, hlA]
            rw [if_neg (by simp; omega)]
            refine ih pv qs' _ cs' _ h1 h2 e2 h4 ?_
            have hfold : (vv.cells.zipIdx.foldl (fun cs (x : Value × Nat) => match x with | (c, j) => cs.setIfInBounds (off + j) c) arr).toList = arr.toList.take off ++ vv.cells.toList ++ arr.toList.drop (off + vv.cells.toList.length) := by
              have := fold_set off vv.cells.toList 0 arr (by simp; omega)
              rw [← Array.foldl_toList, Array.toList_zipIdx]
              simpa using this
            rw [hfold]
            exact h5.splice off hcv
          · cases h4
        · cases h3

theorem run_mapM {α γ : Type} {f : α → Sem γ} {g : α → γ} : ∀ (l : List α), (∀ x ∈ l, (f x).run P w = .ok (g x) w) → (l.mapM f).run P w = .ok (l.map g) w := by
  intro l
  induction l with
  | nil => intro _; rfl
  | cons a l ih =>
    intro h
    rw [List.mapM_cons]
    simp only [Sem.run_bind, h a (by simp), Result.andThen_ok, ih (fun x hx => h x (by simp [hx])), Sem.run_pure, List.map_cons]
theorem run_mapMA {α γ : Type} {f : α → Sem γ} {g : α → γ} (l : Array α) (h : ∀ x ∈ l.toList, (f x).run P w = .ok (g x) w) : (l.mapM f).run P w = .ok (l.map g) w := by
  rw [Array.mapM_eq_mapM_toList]
  simp only [Sem.run_map, run_mapM l.toList h, Result.andThen_ok]
  rw [← Array.toList_map]

theorem build_ok {t : Nat} {ps : List (Nat × EV)} {pv : Array (Nat × Value)} {v : EV} (h1 : ps.map (·.1) = pv.toList.map (·.1)) (h2 : VRs Fr w β (ps.map (·.2)) (pv.toList.map (·.2))) (h : buildE (tiOf P) t ps = some v) :
    ∃ val, (Instr.build t pv).run P w = .ok val w ∧ VR Fr w β v val := by
  unfold buildE at h
  split at h
  · rename_i fs sz bytes ag z eq ht
    obtain ⟨gs, hu, hfs, hin⟩ := (tiOf_ok ht).struct
    obtain ⟨zv, hz, hzv⟩ := (tiOf_ok ht).zero (Fr := Fr) (β := β) w
    split at h
    · rename_i qs eq
      split at h
      · rename_i cs' ef
        injection h with h
        subst h
        have hpl : ∀ x ∈ gs.toList, (do pure (x.offset, ← sizeOf x.type) : Sem (Nat × Nat)).run P w = .ok (x.offset, P.cellsOf x.type) w := by
          intro x hx
          obtain ⟨i, hi⟩ := Option.isSome_iff_exists.1 (hin x hx).1
          simp only [Sem.run_bind, run_sizeOf w hi, Result.andThen_ok, Sem.run_pure]
        obtain ⟨arr', ea, ha⟩ := fill_ok (pl' := fun i => (gs.map fun f => (f.offset, P.cellsOf f.type))[i]?) (fun i => by
          rw [hfs]
          simp only [List.getElem?_map, Array.getElem?_map, Array.getElem?_toList]
          cases gs[i]? <;> rfl) ps pv.toList qs z cs' zv.cells h1 h2 eq ef hzv
        refine ⟨.agg arr', ?_, ?_⟩
        · unfold Instr.build
          simp only [Sem.run_bind, hz, Result.andThen_ok, run_und hu, run_mapMA gs hpl, ea, Sem.run_pure]
        · have := VR.agg ha
          simpa using this
      · cases h
    · cases h
  · rename_i n e sz bytes ag z eq ht
    have hu := (tiOf_ok ht).array
    obtain ⟨zv, hz, hzv⟩ := (tiOf_ok ht).zero (Fr := Fr) (β := β) w
    split at h
    · rename_i te hte
      split at h
      · rename_i qs eq
        split at h
        · rename_i cs' ef
          injection h with h
          subst h
          obtain ⟨arr', ea, ha⟩ := fill_ok (fun _ => rfl) ps pv.toList qs z cs' zv.cells h1 h2 eq ef hzv
          refine ⟨.agg arr', ?_, ?_⟩
          · unfold Instr.build
            simp only [Sem.run_bind, hz, Result.andThen_ok, run_und hu, (tiOf_ok hte).size, ea, Sem.run_pure]
          · have := VR.agg ha
            simpa using this
        · cases h
      · cases h
    · cases h
  · cases h

/-! ### zero cells -/
theorem zero_list {α : Type} [Inhabited α] (z : Array α) (n : Nat) : ((Array.range (n * z.size)).map (fun i => z[i % z.size]!)).toList = (List.replicate n z.toList).flatten := by
  rw [Array.toList_map, Array.toList_range]
  induction n with
  | zero => simp
  | succ n ih =>
    rw [List.replicate_succ, List.flatten_cons, ← ih, Nat.succ_mul, Nat.add_comm (n * z.size), List.range_add, List.map_append]
    congr 1
    · apply List.ext_getElem
      · simp
      · intro i h1 h2
        have h3 : i < z.size := by simpa using h2
        simp [Nat.mod_eq_of_lt h3, h3]
    · rw [List.map_map]
      apply List.map_congr_left
      intro i _
      simp
theorem VRs.rep {cs : List EV} {vs : List Value} (h : VRs Fr w β cs vs) (n : Nat) : VRs Fr w β (rep n cs) (List.replicate n vs).flatten := by
  induction n with
  | zero => exact .nil
  | succ n ih => rw [List.replicate_succ, List.flatten_cons]; exact h.append ih
theorem rep_length (n : Nat) (cs : List EV) : (rep n cs).length = n * cs.length := by
  induction n with
  | zero => simp [Ev.rep]
  | succ n ih => simp [Ev.rep, ih, Nat.succ_mul, Nat.add_comm]
theorem zero_VRs {t : Nat} {ti : TI} (h : tiOf P t = some ti) (n : Nat) : ∃ zv : Value, (∀ w, (zeroValue t).run P w = .ok zv w) ∧ zv.cells.size = ti.sz ∧ VRs Fr w β (Ev.rep n ti.zero) ((Array.range (n * ti.sz)).map (fun i => zv.cells[i % zv.cells.size]!)).toList := by
  obtain ⟨i, zv, hi, hs, hb, hz, hc, hl, hag⟩ := (tiOf_ok h).info
  have hv : VRs Fr w β ti.zero zv.cells.toList := ofCs_VR hc
  have hsz : zv.cells.size = ti.sz := by have := hv.length; simp at this; omega
  refine ⟨zv, fun w => by unfold zeroValue; simp only [Sem.run_bind, run_typeInfo w hi, Result.andThen_ok, hz]; rfl, hsz, ?_⟩
  rw [← hsz, zero_list]
  exact hv.rep n
/-- The zero cells, as the model makes them: none at all where there are none. -/
theorem zeros_run {t : Nat} {ti : TI} (h : tiOf P t = some ti) (n : Nat) : ∃ zs : Array Value, (n * ti.sz = 0 ∧ zs = #[] ∨ n * ti.sz ≠ 0 ∧ ∃ zv : Value, (zeroValue t).run P w = .ok zv w ∧ zs = zv.cells) ∧
    VRs Fr w β (Ev.rep n ti.zero) ((Array.range (n * ti.sz)).map (fun i => zs[i % zs.size]!)).toList := by
  obtain ⟨zv, h1, h2, h3⟩ := zero_VRs (Fr := Fr) (w := w) (β := β) h n
  by_cases hn : n * ti.sz = 0
  · refine ⟨#[], .inl ⟨hn, rfl⟩, ?_⟩
    rw [hn] at h3 ⊢
    simpa using h3
  · exact ⟨zv.cells, .inr ⟨hn, zv, h1 w, rfl⟩, h3⟩

/-- A slice of one's own, just made. -/
theorem Ok.newSlice (hr : Rel Fr β H w) {cs : List EV} {rc : Array Value} (e n z k : Nat) (cap : Option Nat) (hv : VRs Fr w β cs (rc.toList.take cs.length)) (hn : n ≤ k) (hk : ∀ c, cap = some c → k = c) (hz : k * z ≤ rc.size) :
    Ok Fr β H w Fr (β ++ [some (w.heap.size, 0)]) (H ++ [.cells cs]) { w with heap := w.heap.push (.cells rc e) } ∧
    VR Fr { w with heap := w.heap.push (.cells rc e) } (β ++ [some (w.heap.size, 0)]) (.sl H.length 0 n z cap) (.slice (some ⟨w.heap.size, 0, none⟩) n k) := by
  refine ⟨Ok.newCells hr rc e hv (fun j v h => ?_), .sl (s := 0) (i := 0) (new_at hr _) hn hk ⟨rc, e, (0, 0), by simp, by omega, fun y _ _ => by simp⟩⟩
  rw [List.getElem?_take] at h
  split at h
  · simpa using h
  · cases h

/-- A new block, of no object: all its cells stay. -/
theorem Ok.fresh (hr : Rel Fr β H w) {obj : Obj} (hw : w'.heap = w.heap.push obj) (ho : w'.os = w.os) (ht : w'.tape = w.tape) (hp : w'.output = w.output) : Ok Fr β H w (fun b x => Fr b x ∨ b = w.heap.size) β H w' := by
  have hold : ∀ b, b < w.heap.size → w'.heap[b]? = w.heap[b]? := fun b hb => by rw [hw, Array.getElem?_push, if_neg (by omega)]
  have hsz : w'.heap.size = w.heap.size + 1 := by rw [hw]; simp
  have hK : Keep Fr w w' := fun b x hb => ⟨cell_block (hold b (hr.old b x hb)) x, fun ents clock h => (hold b (hr.old b x hb)).trans h⟩
  have hSh : Shape w w' := fun b rc t fr hb => ⟨rc, (hold b (Array.getElem?_eq_some_iff.1 hb).1).trans hb, rfl⟩
  have mono : ∀ {es : List EV} {vs : List Value}, VRs Fr w β es vs → VRs (fun b x => Fr b x ∨ b = w.heap.size) w' β es vs := fun h => h.mono (fun _ _ h => h) (fun _ _ h => .inl h) hK hSh
  refine ⟨⟨hr.len, ?_, ?_, ?_, ?_, ?_, hr.inj, ?_⟩, fun _ _ h => h, fun _ h => h, fun _ _ h => .inl h, ⟨ho, ht, hp, by omega, hSh, fun b hb _ => hold b hb, fun b x hb _ => cell_block (hold b hb) x⟩, fun _ _ h => h, fun _ _ _ h => h, fun b x hb hf => by
    rcases hf with h | h
    · exact .inl h
    · omega⟩
  · intro o cs b s h hb
    obtain ⟨rc, t, fr, vs, hh, hv, hcc⟩ := hr.cells o cs b s h hb
    exact ⟨rc, t, fr, vs, (hold b (Array.getElem?_eq_some_iff.1 hh).1).trans hh, mono hv, hcc⟩
  · intro o es b s h hb
    obtain ⟨ents, clock, hh, hv1, hv2⟩ := hr.maps o es b s h hb
    exact ⟨ents, clock, (hold b (Array.getElem?_eq_some_iff.1 hh).1).trans hh, mono hv1, mono hv2⟩
  · intro o m b s h hb
    obtain ⟨rc, t, fr, hh⟩ := hr.tips o m b s h hb
    exact ⟨rc, t, fr, (hold b (Array.getElem?_eq_some_iff.1 hh).1).trans hh⟩
  · intro o b s hb ha
    have := hr.live o b s hb ha
    omega
  · rintro b x ⟨o, s, y, h1, h2, h3⟩ hf
    have := hr.live o b s h1 ⟨y, h2, fun e => by subst e; exact h3⟩
    rcases hf with hf | hf
    · exact hr.free b x ⟨o, s, y, h1, h2, h3⟩ hf
    · omega
  · rintro b x (hb | hb)
    · have := hr.old b x hb; omega
    · omega

theorem still_ok {γ : Bt} {e e' : EV} {v : Value} (h : still e = some e') (hv : VR Fr w β e v) : VR Fr w γ e' v := by
  unfold still at h
  split at h
  all_goals first | (cases h; done) | (injection h with h; subst h)
  all_goals first
    | (cases hv; constructor; done)
    | (cases hv; constructor; assumption; done)
    | (cases hv with
       | fz0 a b => exact .fz0 (fun e => by cases e) (fun _ e => by cases e)
       | fz a b c d e f g => exact .fz a b c d e (fun e => by cases e) (fun _ e => by cases e))
    | (cases hv with | fp a b => exact .fp a b)
    | (cases hv with | fm a b c d => exact .fm a b c d)
    | (cases hv with | fn a b => cases a; cases b; exact .fn .nil .nil)
theorem mapO_ok {f : EV → Option EV} {Fr' : Nat → Nat → Prop} {w' : World} {β' : Bt} : ∀ {cs cs' : List EV} {vs : List Value}, (∀ e ∈ cs, ∀ v e', f e = some e' → VR Fr w β e v → VR Fr' w' β' e' v) → VRs Fr w β cs vs → mapO f cs = some cs' → VRs Fr' w' β' cs' vs := by
  intro cs
  induction cs with
  | nil => intro cs' vs _ hv h; simp only [mapO] at h; injection h with h; subst h; cases hv; exact .nil
  | cons c cs ih =>
    intro cs' vs hf hv h
    simp only [mapO] at h
    split at h
    · rename_i y ys h1 h2
      injection h with h
      subst h
      cases hv with
      | cons hv hvs => exact .cons (hf c (by simp) _ _ h1 hv) (ih (fun e he => hf e (by simp [he])) hvs h2)
    · cases h
theorem mapO_length {α γ : Type} {f : α → Option γ} : ∀ {cs : List α} {cs' : List γ}, mapO f cs = some cs' → cs'.length = cs.length
  | [], cs', h => by simp only [mapO] at h; injection h with h; subst h; rfl
  | c :: cs, cs', h => by
    simp only [mapO] at h
    split at h
    · rename_i h2
      injection h with h
      subst h
      simp [mapO_length h2]
    · cases h

theorem buildSlice_ok (hr : Rel Fr β H w) {t n : Nat} {ps : List (Nat × EV)} {pv : Array (Nat × Value)} {v : EV} {H' : Heap} (h1 : ps.map (·.1) = pv.toList.map (·.1)) (h2 : VRs Fr w β (ps.map (·.2)) (pv.toList.map (·.2))) {vm : Bool} (h : buildSliceE (tiOf P) vm H t n ps = some (v, H')) :
    Does Fr β H w ((Instr.buildSlice t n pv).run P w) v H' := by
  unfold buildSliceE at h
  split at h
  · rename_i e sz bytes ag z eq ht
    have hu := (tiOf_ok ht).slice
    split at h
    · rename_i te hte
      split at h
      · rename_i hsz
        split at h
        · rename_i qs eq
          split at h
          · rename_i cs' ef
            obtain ⟨zs, hz, hzv⟩ := zeros_run (P := P) (Fr := Fr) (w := w) (β := β) hte n
            obtain ⟨arr', ea, ha⟩ := fill_ok (fun _ => rfl) ps pv.toList qs _ cs' _ h1 h2 eq ef hzv
            have hla := ha.length
            have hl2 : arr'.size = n * te.sz := by
              have : ∀ (pl : Nat → Option (Nat × Nat)) (ps : List (Nat × Value)) (a b : Array Value), Instr.fill pl a ps = some b → b.size = a.size := by
                intro pl ps
                induction ps with
                | nil => intro a b h; simp only [Instr.fill] at h; injection h with h; rw [h]
                | cons p ps ih =>
                  intro a b h
                  obtain ⟨i, v⟩ := p
                  simp only [Instr.fill] at h
                  split at h
                  · cases h
                  · split at h
                    · cases h
                    · rw [ih _ _ h]
                      rw [← Array.foldl_toList]
                      generalize v.cells.zipIdx.toList = l
                      rename_i hbad
                      clear ih h hbad
                      induction l generalizing a with
                      | nil => rfl
                      | cons x l ih2 => rw [List.foldl_cons, ih2]; simp
              have := this _ _ _ _ ea
              simpa using this
            have hrun : (Instr.buildSlice t n pv).run P w = .ok (.slice (some ⟨w.heap.size, 0, none⟩) n n) { w with heap := w.heap.push (.cells arr' e) } := by
              unfold Instr.buildSlice
              simp only [Sem.run_bind, run_und hu, Result.andThen_ok, (tiOf_ok hte).size]
              rw [if_neg (by omega)]
              rcases hz with ⟨hz0, rfl⟩ | ⟨hz0, zv, hzr, rfl⟩
              · simp only [Sem.run_bind, Sem.run_pure, Result.andThen_ok, Sem.run_ite]
                rw [if_pos hz0]
                simp only [ea, newRow, Sem.run_bind, run_newObj, Sem.run_pure, Result.andThen_ok]
              · simp only [Sem.run_bind, Sem.run_pure, Result.andThen_ok, Sem.run_ite]
                rw [if_neg hz0]
                simp only [hzr, ea, newRow, Sem.run_bind, run_newObj, Sem.run_pure, Result.andThen_ok]
            split at h
            · split at h
              · rename_i cs2 hst
                injection h with h
                injection h with h h'
                subst h; subst h'
                have hok := Ok.fresh (w' := { w with heap := w.heap.push (.cells arr' e) }) hr rfl rfl rfl rfl
                have hst2 : VRs _ _ [] cs2 arr'.toList := mapO_ok (fun _ _ _ _ h1 h2 => still_ok h1 h2) (hok.vrs hr ha) hst
                have hl3 := hst2.length
                simp only [Array.length_toList] at hl3
                refine ⟨_, _, _, _, hrun, hok, .fz (s := 0) (z := te.sz) (vs := arr'.toList) ?_ (chunk_width _ _ _ (by omega)) (fun j v hj => ⟨.inr rfl, ?_⟩) (chunk_length _ _ _).symm (Nat.le_refl _) (fun _ => rfl) (fun _ e => by cases e)⟩
                · rw [chunk_flat, List.take_of_length_le (by omega)]
                  exact hst2
                · simp only [World.cell?, Nat.zero_add, Array.getElem?_push_size, Option.isSome_none, Bool.false_eq_true, if_false]
                  simpa using hj
              · cases h
            · split at h
              · rename_i hone
                injection h with h
                injection h with h h'
                subst h; subst h'
                obtain ⟨hok, hvr⟩ := Ok.newSlice hr (cs := cs') (rc := arr') e n te.sz n (some n) (by rw [List.take_of_length_le (by omega)]; exact ha) (Nat.le_refl _) (fun c hc => by injection hc) (by omega)
                exact ⟨_, _, _, _, hrun, hok, hvr⟩
              · cases h
          · cases h
        · cases h
      · cases h
    · cases h
  · cases h

theorem makeSlice_ok (hr : Rel Fr β H w) {t : Nat} {l c v : EV} {lv cv : Value} {H' : Heap} (hl : VR Fr w β l lv) (hc : VR Fr w β c cv) (h : makeSliceE (tiOf P) H t l c = some (v, H')) : Does Fr β H w ((Instr.makeSlice t lv cv).run P w) v H' := by
  unfold makeSliceE at h
  split at h
  · rename_i e sz bytes ag z eq l c ht
    have hu := (tiOf_ok ht).slice
    split at h
    · rename_i te hte
      split at h
      · rename_i hcond
        obtain ⟨h1, h2, h3, h4⟩ := hcond
        injection h with h
        injection h with h h'
        subst h; subst h'
        cases hl
        cases hc
        obtain ⟨inf, hinf, hby⟩ := (tiOf_ok hte).bytes w
        obtain ⟨zs, hz, hzv⟩ := zeros_run (P := P) (Fr := Fr) (w := w) (β := β) hte c.toNat
        have hla := hzv.length
        obtain ⟨hok, hvr⟩ := Ok.newSlice hr (cs := Ev.rep c.toNat te.zero) (rc := (Array.range (c.toNat * te.sz)).map (fun i => zs[i % zs.size]!)) e l.toNat te.sz c.toNat (some c.toNat)
          (by rw [List.take_of_length_le (by omega)]; exact hzv) (by omega) (fun c hc => by injection hc) (by simp)
        refine ⟨_, _, _, _, ?_, hok, hvr⟩
        have w1 : IntKind.i64.wrap l = l := by simp [IntKind.wrap, IntKind.bits, IntKind.signed]; omega
        have w2 : IntKind.i64.wrap c = c := by simp [IntKind.wrap, IntKind.bits, IntKind.signed]; omega
        unfold Instr.makeSlice
        simp only [Sem.run_bind, run_und hu, Result.andThen_ok, asInt, asIntOf_int, Sem.run_pure, hinf, w1, w2, hby]
        have hb : ¬ ((te.bytes : Int) * c > 2 ^ 48) := by
          have : ((te.bytes : Int) * c) = ((c.toNat * te.bytes : Nat) : Int) := by
            rw [Nat.mul_comm]
            push_cast
            rw [Int.toNat_of_nonneg (by omega)]
          omega
        rw [if_neg (by simp; omega)]
        simp only [Sem.run_bind, run_askRoom, Result.andThen_ok, (tiOf_ok hte).size]
        rcases hz with ⟨hz0, rfl⟩ | ⟨hz0, zv, hzr, rfl⟩
        · simp only [Sem.run_bind, Sem.run_pure, Result.andThen_ok, Sem.run_ite]
          rw [if_pos hz0]
          simp only [newRow, Sem.run_bind, run_newObj, Sem.run_pure, Result.andThen_ok]
        · simp only [Sem.run_bind, Sem.run_pure, Result.andThen_ok, Sem.run_ite]
          rw [if_neg hz0]
          simp only [hzr, newRow, Sem.run_bind, run_newObj, Sem.run_pure, Result.andThen_ok]
      · cases h
    · cases h
  · cases h

end
end Go.Ev
end
