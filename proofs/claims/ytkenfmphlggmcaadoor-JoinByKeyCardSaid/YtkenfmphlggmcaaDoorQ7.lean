/- The evaluator E: an operation that is no call does on all of the heap what it does on a part. -/
import Derived.Test.YtkenfmphlggmcaaDoorQ6

section
namespace Go.Ev
open Go
set_option linter.unusedSimpArgs false
set_option linter.unusedVariables false

/-- The same change, on a part and on all. -/
def Extd (H Hs H' Hs' : Heap) (W : List Nat) : Prop := Sub H' Hs' ∧ (∀ o : Nat, o < Hs.length → o ∉ W → Hs'[o]? = Hs[o]?) ∧ ∀ o : Nat, (Hs.length ≤ o ∨ o ∈ W) → Hs'[o]? = H'[o]?

section
variable {H Hs : Heap}
/-- What is alive on the part is there on all of it, whatever their lengths. -/
def Part (H Hs : Heap) : Prop := ∀ (o : Nat) (x : EO), H[o]? = some x → x ≠ .dead → Hs[o]? = some x
theorem Extd.refl (h : Sub H Hs) : Extd H Hs H Hs [] := ⟨h, fun _ _ _ => rfl, fun o ho => by
  rcases ho with ho | ho
  · rw [List.getElem?_eq_none ho, List.getElem?_eq_none (by rw [h.1]; exact ho)]
  · cases ho⟩
theorem Extd.app (h : Sub H Hs) (x : EO) : Extd H Hs (H ++ [x]) (Hs ++ [x]) [] := by
  refine ⟨⟨by simp [h.1], fun o y hy hn => ?_⟩, fun o ho _ => List.getElem?_append_left ho, fun o ho => ?_⟩
  · rw [getElem?_append_one] at hy ⊢
    rw [← h.1]
    split at hy
    · rename_i hlt
      rw [if_pos hlt]
      exact h.2 o y hy hn
    · rename_i hlt
      rw [if_neg hlt]
      exact hy
  · rcases ho with ho | ho
    · have hl := h.1
      rw [getElem?_append_one, getElem?_append_one, hl]
      simp only [if_neg (show ¬ o < Hs.length by omega)]
    · cases ho
theorem Extd.set (h : Sub H Hs) {o : Nat} (ho : o < Hs.length) (x : EO) : Extd H Hs (H.set o x) (Hs.set o x) [o] := by
  refine ⟨⟨by simp [h.1], fun o' y hy hn => ?_⟩, fun o' _ hn => ?_, fun o' ho' => ?_⟩
  · rw [List.getElem?_set] at hy ⊢
    rw [← h.1]
    split at hy
    · rename_i e
      rw [if_pos e]
      exact hy
    · rename_i e
      rw [if_neg e]
      exact h.2 o' y hy hn
  · rw [List.getElem?_set, if_neg (fun e => hn (by simp [e]))]
  · rw [List.getElem?_set, List.getElem?_set, h.1]
    rcases ho' with ho' | ho'
    · rw [if_neg (by omega), if_neg (by omega), List.getElem?_eq_none ho', List.getElem?_eq_none (by rw [h.1]; exact ho')]
    · simp only [List.mem_singleton] at ho'
      subst ho'
      rw [if_pos rfl, if_pos rfl]
theorem Extd.setapp (h : Sub H Hs) {o : Nat} (ho : o < Hs.length) (x y : EO) : Extd H Hs (H.set o x ++ [y]) (Hs.set o x ++ [y]) [o] := by
  have h1 := Extd.set h ho x
  have h2 := Extd.app h1.1 y
  refine ⟨h2.1, fun o' hl hn => ?_, fun o' ho' => ?_⟩
  · rw [List.getElem?_append_left (by simpa using hl)]
    exact h1.2.1 o' hl hn
  · rw [getElem?_append_one, getElem?_append_one]
    simp only [List.length_set, h.1]
    split
    · exact h1.2.2 o' ho'
    · rfl

theorem ldCells_ext (h : Part H Hs) {p : EV} {n : Nat} {cs : List EV} (e : ldCells H p n = some cs) : ldCells Hs p n = some cs := by
  unfold ldCells at e ⊢
  split at e
  · split at e
    · rename_i ho
      rw [h _ _ ho (by simp)]
      exact e
    · cases e
  · exact e
  · cases e
theorem loadE_ext (h : Part H Hs) {T : TT} {t : Nat} {p v : EV} (e : loadE T H t p = some v) : loadE T Hs t p = some v := by
  unfold loadE at e ⊢
  split at e
  · split at e
    · rename_i hc
      simp only [ldCells_ext h hc]
      exact e
    · cases e
  · cases e
theorem sliceRows_ext (h : Part H Hs) {z : Nat} {x : EV} {es : List (List EV)} (e : sliceRows H z x = some es) : sliceRows Hs z x = some es := by
  unfold sliceRows at e ⊢
  split at e
  · exact e
  · split at e
    · rename_i hz
      rw [if_pos hz]
      split at e
      · rename_i ho
        rw [h _ _ ho (by simp)]
        exact e
      · cases e
    · cases e
  · cases e
theorem entriesE_ext (h : Part H Hs) {x : EV} {es : List (EV × EV)} (e : entriesE H x = some es) : entriesE Hs x = some es := by
  unfold entriesE at e ⊢
  split at e
  · exact e
  · exact e
  · split at e
    · rename_i ho
      rw [h _ _ ho (by simp)]
      exact e
    · cases e
  · cases e
theorem lookupE_ext (h : Part H Hs) {T : TT} {t : Nat} {m k v : EV} {ok : Bool} (e : lookupE T H t m k ok = some v) : lookupE T Hs t m k ok = some v := by
  unfold lookupE at e ⊢
  split at e
  · split at e
    · split at e
      · rename_i hk
        rw [if_pos hk]
        split at e
        · rename_i hes
          rw [entriesE_ext h hes]
          exact e
        · cases e
      · cases e
    · cases e
  · cases e
theorem lenE_ext (h : Part H Hs) {T : TT} {t : Nat} {x : EV} {n : Int} (e : lenE T H t x = some n) : lenE T Hs t x = some n := by
  unfold lenE at e ⊢
  split at e
  · exact e
  · exact e
  · exact e
  · split at e
    · exact e
    · exact e
    · split at e
      · rename_i ho
        rw [h _ _ ho (by simp)]
        exact e
      · cases e
    · cases e
  · cases e
theorem convE_ext (h : Part H Hs) {T : TT} {s d : Nat} {x v : EV} (e : convE T H s d x = some v) : convE T Hs s d x = some v := by
  unfold convE at e ⊢
  split at e
  · split at e
    · exact e
    · exact e
    · split at e
      · split at e
        · rename_i hr
          rw [sliceRows_ext h hr]
          exact e
        · cases e
      · cases e
    · cases e
  · cases e
theorem newsE_ext (h : Part H Hs) {z : Nat} {tx : TI} {x : EV} {es : List (List EV)} (e : newsE H z tx x = some es) : newsE Hs z tx x = some es := by
  unfold newsE at e ⊢
  split at e
  · exact e
  · exact sliceRows_ext h e
  · cases e
theorem storeE_ext (h : Sub H Hs) {T : TT} {t : Nat} {p v : EV} {H' : Heap} {W : List Nat} (e : storeE T H t p v = some (H', W)) : ∃ Hs', storeE T Hs t p v = some (Hs', W) ∧ Extd H Hs H' Hs' W := by
  unfold storeE at e ⊢
  split at e
  · split at e
    · rename_i ho
      have ho' := h.2 _ _ ho (by simp)
      split at e
      · rename_i hc
        injection e with e
        injection e with e1 e2
        subst e1; subst e2
        rw [ho']
        simp only [if_pos hc]
        exact ⟨_, rfl, Extd.set h (List.getElem?_eq_some_iff.1 ho').1 _⟩
      · cases e
    · cases e
  · cases e
theorem updateE_ext (h : Sub H Hs) {T : TT} {t : Nat} {m k v : EV} {H' : Heap} {W : List Nat} (e : updateE T H t m k v = some (H', W)) : ∃ Hs', updateE T Hs t m k v = some (Hs', W) ∧ Extd H Hs H' Hs' W := by
  unfold updateE at e ⊢
  split at e
  · split at e
    · rename_i ho
      have ho' := h.2 _ _ ho (by simp)
      have hl := (List.getElem?_eq_some_iff.1 ho').1
      split at e
      · rename_i hk
        rw [ho']
        simp only [if_pos hk]
        split at e
        · rename_i hf
          injection e with e
          injection e with e1 e2
          subst e1; subst e2
          exact ⟨_, rfl, Extd.set h hl _⟩
        · rename_i hf
          injection e with e
          injection e with e1 e2
          subst e1; subst e2
          exact ⟨_, rfl, Extd.set h hl _⟩
        · cases e
      · cases e
    · cases e
  · cases e
theorem growE_ext (h : Sub H Hs) {vm : Bool} {te : TI} {xs : List (List EV)} {s v : EV} {H' : Heap} {W : List Nat} (e : growE vm H te xs s = some (v, H', W)) : ∃ Hs', growE vm Hs te xs s = some (v, Hs', W) ∧ Extd H Hs H' Hs' W := by
  have hl := h.1
  unfold growE at e ⊢
  split at e
  · split at e
    · rename_i hc
      simp only [if_pos hc]
      split at e
      · rename_i hvm
        simp only [if_pos hvm]
        split at e
        · rename_i hy
          injection e with e; injection e with e0 e; injection e with e1 e2
          subst e0; subst e1; subst e2
          rw [hl]
          exact ⟨_, rfl, Extd.app h _⟩
        · cases e
      · rename_i hvm
        simp only [if_neg hvm]
        injection e with e; injection e with e0 e; injection e with e1 e2
        subst e0; subst e1; subst e2
        rw [hl]
        exact ⟨_, rfl, Extd.app h _⟩
    · cases e
  · split at e
    · rename_i hc
      simp only [if_pos hc]
      split at e
      · rename_i ho
        have ho' := h.2 _ _ ho (by simp)
        rw [ho']
        dsimp only
        split at e
        · rename_i hm
          simp only [if_pos hm]
          split at e
          · rename_i hy
            injection e with e; injection e with e0 e; injection e with e1 e2
            subst e0; subst e1; subst e2
            rw [hl]
            exact ⟨_, rfl, Extd.setapp h (List.getElem?_eq_some_iff.1 ho').1 _ _⟩
          · cases e
        · cases e
      · cases e
    · cases e
  · split at e
    · rename_i hz
      simp only [if_pos hz]
      split at e
      · rename_i ho
        have ho' := h.2 _ _ ho (by simp)
        rw [ho']
        dsimp only
        split at e
        · rename_i hn
          simp only [if_pos hn]
          split at e
          · rename_i hr
            simp only [if_pos hr]
            injection e with e; injection e with e0 e; injection e with e1 e2
            subst e0; subst e1; subst e2
            exact ⟨_, rfl, Extd.set h (List.getElem?_eq_some_iff.1 ho').1 _⟩
          · cases e
        · rename_i hn
          simp only [if_neg hn]
          split at e
          · rename_i hr
            simp only [if_pos hr]
            injection e with e; injection e with e0 e; injection e with e1 e2
            subst e0; subst e1; subst e2
            rw [hl]
            exact ⟨_, rfl, Extd.app h _⟩
          · cases e
      · cases e
    · cases e
  · split at e
    · rename_i hz
      simp only [if_pos hz]
      split at e
      · rename_i ho
        have ho' := h.2 _ _ ho (by simp)
        rw [ho']
        dsimp only
        split at e
        · rename_i hr
          simp only [if_pos hr]
          injection e with e; injection e with e0 e; injection e with e1 e2
          subst e0; subst e1; subst e2
          rw [hl]
          exact ⟨_, rfl, Extd.setapp h (List.getElem?_eq_some_iff.1 ho').1 _ _⟩
        · cases e
      · cases e
    · cases e
  · cases e
theorem appendE_ext (h : Sub H Hs) {T : TT} {vm : Bool} {st xt : Nat} {s x v : EV} {H' : Heap} {W : List Nat} (e : appendE T vm H st xt s x = some (v, H', W)) : ∃ Hs', appendE T vm Hs st xt s x = some (v, Hs', W) ∧ Extd H Hs H' Hs' W := by
  unfold appendE at e ⊢
  split at e
  · split at e
    · split at e
      · rename_i hn
        simp only [newsE_ext h.2 hn]
        split at e
        · injection e with e; injection e with e0 e; injection e with e1 e2
          subst e0; subst e1; subst e2
          exact ⟨_, rfl, Extd.refl h⟩
        · injection e with e; injection e with e0 e; injection e with e1 e2
          subst e0; subst e1; subst e2
          exact ⟨_, rfl, Extd.refl h⟩
        · cases e
      · rename_i xs hne hn
        simp only [newsE_ext h.2 hn]
        split at e
        · rename_i ho
          cases xs with
          | nil => exact absurd rfl hne
          | cons a xs =>
            simp only [if_pos ho]
            exact growE_ext h e
        · cases e
      · cases e
    · cases e
  · cases e

theorem pureR_ext (h : Sub H Hs) {o o' : Option EV} {v : EV} {H' : Heap} {W : List Nat} (e : pureR H o = some (v, H', W)) (ho : ∀ x, o = some x → o' = some x) : ∃ Hs', pureR Hs o' = some (v, Hs', W) ∧ Extd H Hs H' Hs' W := by
  unfold pureR at e ⊢
  split at e
  · rename_i x
    injection e with e; injection e with e0 e; injection e with e1 e2
    subst e0; subst e1; subst e2
    rw [ho x rfl]
    exact ⟨_, rfl, Extd.refl h⟩
  · cases e

theorem builtinE_ext (h : Sub H Hs) {T : TT} {vm : Bool} {b : Builtin} {ts : Array TypeId} {vs : List EV} {v : EV} {H' : Heap} {W : List Nat} (e : builtinE T vm H b ts vs = some (v, H', W)) : ∃ Hs', builtinE T vm Hs b ts vs = some (v, Hs', W) ∧ Extd H Hs H' Hs' W := by
  unfold builtinE at e ⊢
  split at e
  · split at e
    · split at e
      · rename_i hn
        simp only [lenE_ext h.2 hn]
        injection e with e; injection e with e0 e; injection e with e1 e2
        subst e0; subst e1; subst e2
        exact ⟨_, rfl, Extd.refl h⟩
      · cases e
    · cases e
  · split at e
    · exact appendE_ext h e
    · cases e
  · exact pureR_ext h e (fun _ hx => hx)
  · exact pureR_ext h e (fun _ hx => hx)
  · cases e

theorem convNew_ext (h : Sub H Hs) {T : TT} {a b : Nat} {x v : EV} {H' : Heap} (e : convNew T H a b x = some (v, H')) : ∃ Hs', convNew T Hs a b x = some (v, Hs') ∧ Extd H Hs H' Hs' [] ∧ convE T Hs a b x = none := by
  have hl := h.1
  unfold convNew at e
  split at e
  · rename_i ts td hts htd
    split at e
    · rename_i e' s hts' htd'
      split at e
      · rename_i hte
        injection e with e; injection e with e0 e1
        subst e0; subst e1
        rw [hl]
        refine ⟨_, ?_, Extd.app h _, ?_⟩
        · unfold convNew
          rw [hts, htd]
          simp only [hts', htd', hte]
        · unfold convE
          rw [hts, htd]
          simp only [hts', htd']
      · cases e
    · cases e
  · cases e

theorem opE_ext (h : Sub H Hs) {E : EP} {l : Look} {op : Op} {v : EV} {H' : Heap} {W : List Nat} (e : opE E l H op = some (v, H', W)) : ∃ Hs', opE E l Hs op = some (v, Hs', W) ∧ Extd H Hs H' Hs' W := by
  have hl := h.1
  have hpure : ∀ {o : Option EV}, pureR H o = some (v, H', W) → ∃ Hs', pureR Hs o = some (v, Hs', W) ∧ Extd H Hs H' Hs' W := fun e => pureR_ext h e (fun _ hx => hx)
  unfold opE at e ⊢
  split at e
  · exact hpure e
  · exact hpure e
  · split at e
    · exact hpure e
    · exact hpure e
    · cases e
  · split at e
    · split at e
      · rename_i ho
        injection e with e; injection e with e0 e; injection e with e1 e2
        subst e0; subst e1; subst e2
        simp only [if_pos ho, hl]
        exact ⟨_, rfl, Extd.app h _⟩
      · cases e
    · cases e
  · split at e
    · split at e
      · rename_i ho
        injection e with e; injection e with e0 e; injection e with e1 e2
        subst e0; subst e1; subst e2
        simp only [if_pos ho, hl]
        exact ⟨_, rfl, Extd.app h _⟩
      · cases e
    · cases e
  · split at e
    · exact hpure e
    · cases e
  · split at e
    · rename_i hq
      unfold newR at e
      split at e
      · rename_i hb
        injection e with e; injection e with e0 e; injection e with e1 e2
        subst e0; subst e1; subst e2
        unfold buildSliceE at hb
        unfold newR buildSliceE
        split at hb
        · split at hb
          · split at hb
            · rename_i hsz
              simp only [if_pos hsz]
              split at hb
              · split at hb
                · split at hb
                  · rename_i hvm
                    simp only [if_pos hvm]
                    split at hb
                    · injection hb with hb; injection hb with h0 h1
                      subst h0; subst h1
                      exact ⟨_, rfl, Extd.refl h⟩
                    · cases hb
                  · rename_i hvm
                    simp only [if_neg hvm]
                    split at hb
                    · rename_i ho
                      simp only [if_pos ho]
                      injection hb with hb; injection hb with h0 h1
                      subst h0; subst h1
                      rw [hl]
                      exact ⟨_, rfl, Extd.app h _⟩
                    · cases hb
                · cases hb
              · cases hb
            · cases hb
          · cases hb
        · cases hb
      · cases e
    · cases e
  · split at e
    · exact pureR_ext h e (fun _ hx => loadE_ext h.2 hx)
    · cases e
  · split at e
    · unfold unitR at e
      split at e
      · rename_i hst
        injection e with e; injection e with e0 e; injection e with e1 e2
        subst e0; subst e1; subst e2
        obtain ⟨Hs', h1, h2⟩ := storeE_ext h hst
        exact ⟨Hs', by simp only [unitR, h1], h2⟩
      · cases e
    · cases e
  · split at e
    · injection e with e; injection e with e0 e; injection e with e1 e2
      subst e0; subst e1; subst e2
      exact ⟨_, rfl, Extd.refl h⟩
    · injection e with e; injection e with e0 e; injection e with e1 e2
      subst e0; subst e1; subst e2
      exact ⟨_, rfl, Extd.refl h⟩
    · injection e with e; injection e with e0 e; injection e with e1 e2
      subst e0; subst e1; subst e2
      exact ⟨_, rfl, Extd.refl h⟩
    · cases e
  · split at e
    · exact hpure e
    · cases e
  · split at e
    · exact hpure e
    · cases e
  · split at e
    · split at e
      · rename_i hc
        injection e with e; injection e with e0 e; injection e with e1 e2
        subst e0; subst e1; subst e2
        simp only [convE_ext h.2 hc]
        exact ⟨_, rfl, Extd.refl h⟩
      · rename_i hnc
        -- no conversion on the part: none on all of it either, or a new object
        unfold newR at e
        split at e
        · rename_i hcn
          injection e with e; injection e with e0 e; injection e with e1 e2
          subst e0; subst e1; subst e2
          obtain ⟨Hs', g1, g2, g3⟩ := convNew_ext h hcn
          rw [g3]
          exact ⟨Hs', by simp only [newR, g1], g2⟩
        · cases e
    · cases e
  · split at e
    · injection e with e; injection e with e0 e; injection e with e1 e2
      subst e0; subst e1; subst e2
      exact ⟨_, rfl, Extd.refl h⟩
    · cases e
  · injection e with e; injection e with e0 e; injection e with e1 e2
    subst e0; subst e1; subst e2
    rw [hl]
    exact ⟨_, rfl, Extd.app h _⟩
  · split at e
    · unfold newR at e
      split at e
      · rename_i hcn
        injection e with e; injection e with e0 e; injection e with e1 e2
        subst e0; subst e1; subst e2
        unfold makeSliceE at hcn
        unfold newR makeSliceE
        split at hcn
        · split at hcn
          · split at hcn
            · rename_i hc
              simp only [if_pos hc]
              injection hcn with hcn; injection hcn with h0 h1
              subst h0; subst h1
              rw [hl]
              exact ⟨_, rfl, Extd.app h _⟩
            · cases hcn
          · cases hcn
        · cases hcn
      · cases e
    · cases e
  · split at e
    · exact hpure e
    · cases e
  · split at e
    · exact hpure e
    · cases e
  · split at e
    · exact hpure e
    · cases e
  · split at e
    · exact hpure e
    · cases e
  · split at e
    · exact hpure e
    · cases e
  · split at e
    · exact pureR_ext h e (fun _ hx => lookupE_ext h.2 hx)
    · cases e
  · split at e
    · unfold unitR at e
      split at e
      · rename_i hst
        injection e with e; injection e with e0 e; injection e with e1 e2
        subst e0; subst e1; subst e2
        obtain ⟨Hs', h1, h2⟩ := updateE_ext h hst
        exact ⟨Hs', by simp only [unitR, h1], h2⟩
      · cases e
    · cases e
  · split at e
    · unfold unitR at e
      split at e
      · rename_i hst
        injection e with e; injection e with e0 e; injection e with e1 e2
        subst e0; subst e1; subst e2
        obtain ⟨Hs', h1, h2⟩ := updateE_ext h hst
        exact ⟨Hs', by simp only [unitR, h1], h2⟩
      · cases e
    · cases e
  · split at e
    · exact hpure e
    · cases e
  · split at e
    · exact builtinE_ext h e
    · cases e
  · cases e

theorem Part.pad (h : Part H Hs) (hl : H.length ≤ Hs.length) : Sub (H ++ List.replicate (Hs.length - H.length) .dead) Hs := by
  refine ⟨by simp; omega, fun o x hx hn => ?_⟩
  by_cases ho : o < H.length
  · rw [List.getElem?_append_left ho] at hx
    exact h o x hx hn
  · rw [List.getElem?_append_right (by omega), List.getElem?_replicate] at hx
    split at hx
    · injection hx with hx; exact absurd hx.symm hn
    · cases hx

theorem pureR_quiet {o o' : Option EV} {v : EV} {H' : Heap} {W : List Nat} (e : pureR H o = some (v, H', W)) (ho : ∀ x, o = some x → o' = some x) : pureR Hs o' = some (v, Hs, []) := by
  unfold pureR at e ⊢
  split at e
  · rename_i x
    injection e with e; injection e with e0 _
    subst e0
    rw [ho x rfl]
  · cases e
theorem newR_quiet {o : Option (EV × Heap)} {v : EV} {H' : Heap} {W : List Nat} (e : newR o = some (v, H', W)) : o = some (v, H') := by
  unfold newR at e
  split at e
  · injection e with e; injection e with e0 e; injection e with e1 _
    subst e0; subst e1
    rfl
  · cases e
theorem unitR_quiet {o : Option (Heap × List Nat)} {v : EV} {H' : Heap} {W : List Nat} (e : unitR o = some (v, H', W)) : o = some (H', W) := by
  unfold unitR at e
  split at e
  · injection e with e; injection e with e0 e; injection e with e1 e2
    subst e1; subst e2
    rfl
  · cases e

/-- An operation that only looks does so on more of the heap, too. -/
theorem opE_quiet (h : Part H Hs) {E : EP} {l : Look} {op : Op} {v : EV} {H' : Heap} (e : opE E l H op = some (v, H', [])) (hl : H'.length = H.length) : opE E l Hs op = some (v, Hs, []) := by
  have hpure : ∀ {o : Option EV}, pureR H o = some (v, H', []) → pureR Hs o = some (v, Hs, []) := fun e => pureR_quiet e (fun _ hx => hx)
  have happ : ∀ {x : EO}, H ++ [x] = H' → False := fun e => by rw [← e] at hl; simp at hl
  unfold opE at e ⊢
  split at e
  · exact hpure e
  · exact hpure e
  · split at e
    · exact hpure e
    · exact hpure e
    · cases e
  · split at e
    · split at e
      · injection e with e; injection e with _ e; injection e with e1 _
        exact (happ e1).elim
      · cases e
    · cases e
  · split at e
    · split at e
      · injection e with e; injection e with _ e; injection e with e1 _
        exact (happ e1).elim
      · cases e
    · cases e
  · split at e
    · exact hpure e
    · cases e
  · split at e
    · have hb := newR_quiet e
      unfold buildSliceE at hb
      unfold newR buildSliceE
      split at hb
      · split at hb
        · split at hb
          · rename_i hsz
            simp only [if_pos hsz]
            split at hb
            · split at hb
              · split at hb
                · rename_i hvm
                  simp only [if_pos hvm]
                  split at hb
                  · injection hb with hb; injection hb with h0 h1
                    subst h0
                    rfl
                  · cases hb
                · split at hb
                  · injection hb with hb; injection hb with _ h1
                    exact (happ h1).elim
                  · cases hb
              · cases hb
            · cases hb
          · cases hb
        · cases hb
      · cases hb
    · cases e
  · split at e
    · exact pureR_quiet e (fun _ hx => loadE_ext h hx)
    · cases e
  · split at e
    · have hst := unitR_quiet e
      unfold storeE at hst
      repeat' split at hst
      all_goals first | (cases hst; done) | (injection hst with hst; injection hst with _ h1; cases h1)
    · cases e
  · split at e
    · injection e with e; injection e with e0 _; subst e0; rfl
    · injection e with e; injection e with e0 _; subst e0; rfl
    · injection e with e; injection e with e0 _; subst e0; rfl
    · cases e
  · split at e
    · exact hpure e
    · cases e
  · split at e
    · exact hpure e
    · cases e
  · split at e
    · split at e
      · rename_i hc
        injection e with e; injection e with e0 _; subst e0
        simp only [convE_ext h hc]
      · have hcn := newR_quiet e
        unfold convNew at hcn
        repeat' split at hcn
        all_goals first | (cases hcn; done) | (injection hcn with hcn; injection hcn with _ h1; exact (happ h1).elim)
    · cases e
  · split at e
    · injection e with e; injection e with e0 _; subst e0; rfl
    · cases e
  · injection e with e; injection e with _ e; injection e with e1 _
    exact (happ e1).elim
  · split at e
    · have hcn := newR_quiet e
      unfold makeSliceE at hcn
      repeat' split at hcn
      all_goals first | (cases hcn; done) | (injection hcn with hcn; injection hcn with _ h1; exact (happ h1).elim)
    · cases e
  · split at e
    · exact hpure e
    · cases e
  · split at e
    · exact hpure e
    · cases e
  · split at e
    · exact hpure e
    · cases e
  · split at e
    · exact hpure e
    · cases e
  · split at e
    · exact hpure e
    · cases e
  · split at e
    · exact pureR_quiet e (fun _ hx => lookupE_ext h hx)
    · cases e
  · split at e
    · have hst := unitR_quiet e
      unfold updateE at hst
      repeat' split at hst
      all_goals first | (cases hst; done) | (injection hst with hst; injection hst with _ h1; cases h1)
    · cases e
  · split at e
    · have hst := unitR_quiet e
      unfold updateE at hst
      repeat' split at hst
      all_goals first | (cases hst; done) | (injection hst with hst; injection hst with _ h1; cases h1)
    · cases e
  · split at e
    · exact hpure e
    · cases e
  · split at e
    · unfold builtinE at e ⊢
      split at e
      · split at e
        · split at e
          · rename_i hn
            injection e with e; injection e with e0 _; subst e0
            simp only [lenE_ext h hn]
          · cases e
        · cases e
      · split at e
        · rename_i st xt _ _
          unfold appendE at e ⊢
          split at e
          · split at e
            · split at e
              · rename_i hn
                simp only [newsE_ext h hn]
                split at e
                · injection e with e; injection e with e0 _; subst e0; rfl
                · injection e with e; injection e with e0 _; subst e0; rfl
                · cases e
              · split at e
                · unfold growE at e
                  exfalso
                  repeat' split at e
                  all_goals first | (cases e; done) | (injection e with e; injection e with _ e; injection e with e1 e2; first | (cases e2; done) | exact happ e1)
                · cases e
              · cases e
            · cases e
          · cases e
        · cases e
      · exact hpure e
      · exact hpure e
      · cases e
    · cases e
  · cases e
end
end Go.Ev
end

/- The evaluator E: places for objects that are born later. -/
section
namespace Go.Ev
open Go
set_option linter.unusedSimpArgs false
set_option linter.unusedVariables false

section
variable {Fr Fr0 : Nat → Nat → Prop} {w w0 w' : World} {β β0 : Bt} {H H0 : Heap}

theorem pad_get {k o : Nat} {x : EO} (h : (H ++ List.replicate k EO.dead)[o]? = some x) (hn : x ≠ .dead) : H[o]? = some x := by
  by_cases ho : o < H.length
  · rwa [List.getElem?_append_left ho] at h
  · rw [List.getElem?_append_right (by omega), List.getElem?_replicate] at h
    split at h
    · injection h with h; exact absurd h.symm hn
    · cases h
theorem pad_bt {k o : Nat} {x : Nat × Nat} (h : (β ++ List.replicate k none)[o]? = some (some x)) : β[o]? = some (some x) := by
  by_cases ho : o < β.length
  · rwa [List.getElem?_append_left ho] at h
  · rw [List.getElem?_append_right (by omega), List.getElem?_replicate] at h
    split at h
    · injection h with h; cases h
    · cases h
/-- Places for k objects, none of them born. -/
theorem Ok.pad (hr : Rel Fr β H w) (k : Nat) : Ok Fr β H w Fr (β ++ List.replicate k none) (H ++ List.replicate k .dead) w := by
  have hext : ∀ {o : Nat} {y : Option (Nat × Nat)}, β[o]? = some y → (β ++ List.replicate k none)[o]? = some y := fun h => by
    rw [List.getElem?_append_left (List.getElem?_eq_some_iff.1 h).1]; exact h
  have mono : ∀ {es : List EV} {vs : List Value}, VRs Fr w β es vs → VRs Fr w (β ++ List.replicate k none) es vs := fun h => h.mono (fun _ _ h => hext h) (fun _ _ h => h) (Keep.refl _ _) (Shape.refl _)
  have hI : ∀ b, Im (β ++ List.replicate k none) (H ++ List.replicate k .dead) b → Im β H b := fun b ⟨o, s, h1, x, h2, h3⟩ => ⟨o, s, pad_bt h1, x, pad_get h2 h3, h3⟩
  have hC : ∀ b x, ImC (β ++ List.replicate k none) (H ++ List.replicate k .dead) b x → ImC β H b x := fun b x ⟨o, s, ob, h1, h2, h3⟩ => ⟨o, s, ob, pad_bt h1, pad_get h2 (fun e => by subst e; exact h3), h3⟩
  refine ⟨⟨by simp [hr.len], ?_, ?_, ?_, ?_, fun b x h => hr.free b x (hC b x h), ?_, hr.old⟩, fun _ _ h => hext h, fun _ h => hext h, fun _ _ h => h, ⟨rfl, rfl, rfl, Nat.le_refl _, Shape.refl _, fun _ _ _ => rfl, fun _ _ _ _ => rfl⟩, fun b _ h => hI b h, fun b x _ h => hC b x h, fun _ _ _ h => .inl h⟩
  · intro o cs b s ho hb
    obtain ⟨rc, t, fr, vs, h1, h2, h3⟩ := hr.cells o cs b s (pad_get ho (by simp)) (pad_bt hb)
    exact ⟨rc, t, fr, vs, h1, mono h2, h3⟩
  · intro o es b s ho hb
    obtain ⟨ents, c, h1, h2, h3⟩ := hr.maps o es b s (pad_get ho (by simp)) (pad_bt hb)
    exact ⟨ents, c, h1, mono h2, mono h3⟩
  · exact fun o m b s ho hb => hr.tips o m b s (pad_get ho (by simp)) (pad_bt hb)
  · rintro o b s hb ⟨x, hx, hn⟩
    exact hr.live o b s (pad_bt hb) ⟨x, pad_get hx hn, hn⟩
  · rintro o o' b s s' h h' ⟨x, hx, hn⟩ ⟨x', hx', hn'⟩
    exact hr.inj o o' b s s' (pad_bt h) (pad_bt h') ⟨x, pad_get hx hn, hn⟩ ⟨x', pad_get hx' hn', hn'⟩

/-- One is born in its place. -/
theorem Ok.birth (hok : Ok Fr0 β0 H0 w0 Fr β H w) (h0 : β0.length = H0.length) {r : Nat} (hr0 : H0.length ≤ r) (hb : β[r]? = some none) (hd : H[r]? = some EO.dead) {cs : List EV} (rc : Array Value) (t : TypeId) (hv : VRs Fr w β cs rc.toList) :
    Ok Fr0 β0 H0 w0 Fr (β.set r (some (w.heap.size, 0))) (H.set r (.cells cs)) { w with heap := w.heap.push (.cells rc t) } ∧
    Keep Fr w { w with heap := w.heap.push (.cells rc t) } ∧ Shape w { w with heap := w.heap.push (.cells rc t) } := by
  have hr := hok.rel
  have hold : ∀ b, b < w.heap.size → (w.heap.push (.cells rc t))[b]? = w.heap[b]? := fun b hb => by rw [Array.getElem?_push, if_neg (by omega)]
  have hnew : (w.heap.push (.cells rc t))[w.heap.size]? = some (.cells rc t) := by simp
  have hlt : r < H.length := (List.getElem?_eq_some_iff.1 hd).1
  have hltb : r < β.length := (List.getElem?_eq_some_iff.1 hb).1
  have hext : ∀ {o : Nat} {x : Nat × Nat}, β[o]? = some (some x) → (β.set r (some (w.heap.size, 0)))[o]? = some (some x) := fun {o x} h => by
    rw [List.getElem?_set]
    split
    · rename_i e; subst e; rw [hb] at h; cases h
    · exact h
  have hK : Keep Fr w { w with heap := w.heap.push (.cells rc t) } := fun b x hf => ⟨cell_block (hold b (hr.old b x hf)) x, fun ents clock h => (hold b (hr.old b x hf)).trans h⟩
  have hSh : Shape w { w with heap := w.heap.push (.cells rc t) } := fun b rc1 t1 fr1 h => ⟨rc1, (hold b (Array.getElem?_eq_some_iff.1 h).1).trans h, rfl⟩
  have mono : ∀ {es : List EV} {vs : List Value}, VRs Fr w β es vs → VRs Fr { w with heap := w.heap.push (.cells rc t) } (β.set r (some (w.heap.size, 0))) es vs := fun h => h.mono (fun _ _ h => hext h) (fun _ _ h => h) hK hSh
  have hget : ∀ {o b s : Nat} {x : EO}, (β.set r (some (w.heap.size, 0)))[o]? = some (some (b, s)) → (H.set r (.cells cs))[o]? = some x → x ≠ .dead → (o = r ∧ b = w.heap.size ∧ s = 0 ∧ x = .cells cs) ∨ (o ≠ r ∧ β[o]? = some (some (b, s)) ∧ H[o]? = some x) := by
    intro o b s x h1 h2 hn
    rw [List.getElem?_set] at h1 h2
    by_cases e : r = o
    · subst e
      rw [if_pos rfl, if_pos hltb] at h1
      rw [if_pos rfl, if_pos hlt] at h2
      injection h1 with h1; injection h1 with h1; injection h1 with h1 h3
      injection h2 with h2
      exact .inl ⟨rfl, h1.symm, h3.symm, h2.symm⟩
    · rw [if_neg e] at h1 h2
      exact .inr ⟨fun e' => e e'.symm, h1, h2⟩
  have hI : ∀ b, b < w.heap.size → Im (β.set r (some (w.heap.size, 0))) (H.set r (.cells cs)) b → Im β H b := fun b hlt' ⟨o, s, h1, x, h2, h3⟩ => by
    rcases hget h1 h2 h3 with ⟨_, rfl, _⟩ | ⟨_, g1, g2⟩
    · omega
    · exact ⟨o, s, g1, x, g2, h3⟩
  have hC : ∀ b x, b < w.heap.size → ImC (β.set r (some (w.heap.size, 0))) (H.set r (.cells cs)) b x → ImC β H b x := fun b x hlt' ⟨o, s, ob, h1, h2, h3⟩ => by
    rcases hget h1 h2 (fun e => by subst e; exact h3) with ⟨_, rfl, _⟩ | ⟨_, g1, g2⟩
    · omega
    · exact ⟨o, s, ob, g1, g2, h3⟩
  have hsz0 := hok.stp.size
  refine ⟨⟨⟨by simp [hr.len], ?_, ?_, ?_, ?_, ?_, ?_, ?_⟩, fun o x h => hext (hok.ext o x h), fun o h => ?_, hok.fr, ⟨hok.stp.os, hok.stp.tape, hok.stp.output, by simp; omega, hok.stp.shape.trans hSh, fun b hlt' hn => (hold b (by omega)).trans (hok.stp.block b hlt' hn), fun b x hlt' hn => (cell_block (hold b (by omega)) x).trans (hok.stp.cell b x hlt' hn)⟩, fun b hlt' h => hok.im b hlt' (hI b (by omega) h), fun b x hlt' h => hok.imc b x hlt' (hC b x (by omega) h), hok.frn⟩, hK, hSh⟩
  · intro o cs' b s ho hb'
    rcases hget hb' ho (by simp) with ⟨rfl, rfl, rfl, e⟩ | ⟨_, g1, g2⟩
    · injection e with e
      subst e
      exact ⟨rc, t, (0, 0), rc.toList, hnew, mono hv, fun j v hj => ⟨by rw [Nat.zero_add]; simpa using hj, by simp⟩⟩
    · obtain ⟨rc1, t1, fr1, vs, h1, h2, h3⟩ := hr.cells o cs' b s g2 g1
      exact ⟨rc1, t1, fr1, vs, (hold b (Array.getElem?_eq_some_iff.1 h1).1).trans h1, mono h2, h3⟩
  · intro o es b s ho hb'
    rcases hget hb' ho (by simp) with ⟨rfl, rfl, rfl, e⟩ | ⟨_, g1, g2⟩
    · cases e
    · obtain ⟨ents, c, h1, h2, h3⟩ := hr.maps o es b s g2 g1
      exact ⟨ents, c, (hold b (Array.getElem?_eq_some_iff.1 h1).1).trans h1, mono h2, mono h3⟩
  · intro o m b s ho hb'
    rcases hget hb' ho (by simp) with ⟨rfl, rfl, rfl, e⟩ | ⟨_, g1, g2⟩
    · cases e
    · obtain ⟨rc1, t1, fr1, h1⟩ := hr.tips o m b s g2 g1
      exact ⟨rc1, t1, fr1, (hold b (Array.getElem?_eq_some_iff.1 h1).1).trans h1⟩
  · rintro o b s hb' ⟨x, hx, hn⟩
    rcases hget hb' hx hn with ⟨rfl, rfl, rfl, e⟩ | ⟨_, g1, g2⟩
    · simp
    · have := hr.live o b s g1 ⟨x, g2, hn⟩
      simp; omega
  · rintro b x ⟨o, s, ob, h1, h2, h3⟩ hf
    rcases hget h1 h2 (fun e => by subst e; exact h3) with ⟨rfl, rfl, rfl, e⟩ | ⟨_, g1, g2⟩
    · have := hr.old _ _ hf; omega
    · exact hr.free b x ⟨o, s, ob, g1, g2, h3⟩ hf
  · rintro o o' b s s' h1 h2 ⟨x, hx, hn⟩ ⟨x', hx', hn'⟩
    rcases hget h1 hx hn with ⟨p1, p2, _⟩ | ⟨p1, p2, p3⟩ <;> rcases hget h2 hx' hn' with ⟨q1, q2, _⟩ | ⟨q1, q2, q3⟩
    · omega
    · have := hr.live _ _ _ q2 ⟨x', q3, hn'⟩; omega
    · have := hr.live _ _ _ p2 ⟨x, p3, hn⟩; omega
    · exact hr.inj o o' b s s' p2 q2 ⟨x, p3, hn⟩ ⟨x', q3, hn'⟩
  · intro b x hf
    have := hr.old b x hf
    simp; omega
  · rw [List.getElem?_set, if_neg]
    · exact hok.ext' o h
    · have := (List.getElem?_eq_some_iff.1 h).1
      omega
end
end Go.Ev
end

/- The evaluator E: regions that draw their order and write: definitions. -/
section
namespace Go.Ev
open Go
set_option linter.unusedSimpArgs false
set_option linter.unusedVariables false

def isActive : Op → Bool
  | .store .. | .mapUpdate .. | .insert .. | .box .. => true
  | .call { callee := .value _, .. } => true
  | .call { callee := .builtin .append, .. } => true
  | _ => false
def isCallV : Op → Bool
  | .call { callee := .value _, .. } => true
  | _ => false
def activeAt (ops : Array Oper) (i : Nat) : Bool := match ops[i]? with
  | some o => isActive o.op
  | none => false
/-- An object that is born: its cells. -/
def birthAt (T : TT) (ops : Array Oper) (i : Nat) : Option (List EV) := match ops[i]? with
  | some { op := .alloc e, guard := none, .. } => match T e with
    | some te => if te.zero.all EV.one = true then some te.zero else none
    | none => none
  | _ => none
def bornBefore (T : TT) (ops : Array Oper) (i : Nat) : List Nat := (List.range i).filter fun j => (birthAt T ops j).isSome
/-- Each active operation waits on the one before it. -/
def lined (ops : Array Oper) : Bool := (List.range ops.size).all fun i => match ops[i]? with
  | none => false
  | some o => !isActive o.op || match ((List.range i).filter (activeAt ops)).getLast? with
    | some j => (waitsOn o).contains j
    | none => true
/-- Is it done ahead of all that writes? (Where nothing is born a call may write.) -/
def early (T : TT) (ops : Array Oper) (i : Nat) : Bool := (List.range ops.size).all fun j => match ops[j]? with
  | some o => !isActive o.op || (isCallV o.op && !(bornBefore T ops ops.size).isEmpty) || (waitsOn o).contains i
  | none => true
/-- The heap with some places dead. -/
def maskE (H : Heap) (dead : Nat → Bool) : Heap := H.zipIdx.map fun p => if dead p.2 then .dead else p.1
def deadAt (H : Heap) (o : Nat) : Bool := match H[o]? with
  | some .dead => true
  | none => true
  | _ => false

structure DS where
  env : Env
  H : Heap
  W : List Nat

/-- The heap on which an active operation is looked at: what it does not wait on is dead. -/
def lookH (T : TT) (ops : Array Oper) (base : Nat) (o : Oper) (H : Heap) : Heap := if bornBefore T ops ops.size = [] then H else maskE H fun p => (bornBefore T ops ops.size).zipIdx.any fun q => p == base + q.2 && !(waitsOn o).contains q.1
/-- The heap on which an operation that writes nothing is looked at. Wl: all that is written in the region. -/
def passH (T : TT) (ops : Array Oper) (base : Nat) (H1 : Heap) (Wl : List Nat) (i : Nat) : Heap := maskE H1 fun p => decide (base ≤ p) || (!early T ops i && Wl.contains p)
/-- One operation, in the listed order. base: where the places for what is born begin. -/
def drawStep (E : EP) (cf : CallF) (ops : Array Oper) (base : Nat) (H1 : Heap) (Wl : List Nat) (i : Nat) (o : Oper) (s : DS) : Option DS :=
  match birthAt E.T ops i with
  | some _ => some { s with env := putE s.env o.dst (.ptr (base + (bornBefore E.T ops i).length) 0) }
  | none =>
    let l := restr (o.looksAt ops) s.env
    match wantE ops l o with
    | some false => some { s with env := putE s.env o.dst .undef }
    | some true =>
      if isActive o.op then
        match stepE E cf l (lookH E.T ops base o s.H) o.op with
        | some (v, H', W) =>
          if isCallV o.op then
            if bornBefore E.T ops ops.size = [] then some { env := putE s.env o.dst v, H := H', W := s.W ++ W }
            else if W = [] ∧ H'.length = (lookH E.T ops base o s.H).length then some { s with env := putE s.env o.dst v } else none
          else if W.all (fun p => !deadAt (lookH E.T ops base o s.H) p) then match opE E l s.H o.op with
            | some (_, H2, _) => some { env := putE s.env o.dst v, H := H2, W := s.W ++ W }
            | none => none
          else none
        | none => none
      else
        match opE E l (passH E.T ops base H1 Wl i) o.op with
        | some (v, H', W) => if W = [] ∧ H'.length = H1.length then some { s with env := putE s.env o.dst v } else none
        | none => none
    | none => none
def drawRun (E : EP) (cf : CallF) (ops : Array Oper) (base : Nat) (H1 : Heap) (Wl : List Nat) : List Nat → DS → Option DS
  | [], s => some s
  | i :: rest, s => match ops[i]? with
    | none => none
    | some o => match drawStep E cf ops base H1 Wl i o s with
      | some s' => drawRun E cf ops base H1 Wl rest s'
      | none => none
/-- The objects that are born. -/
def bornCells (T : TT) (ops : Array Oper) : List EO := (List.range ops.size).filterMap fun i => (birthAt T ops i).map .cells

/-- The region is gone through twice: then it is known what is written. -/
def draw2E (E : EP) (cf : CallF) : DrawF := fun ops env H =>
  if calm ops = true ∧ lined ops = true then
    match drawRun E cf ops H.length (H ++ bornCells E.T ops) [] (List.range ops.size) ⟨env, H ++ bornCells E.T ops, []⟩ with
    | some s0 => match drawRun E cf ops H.length (H ++ bornCells E.T ops) s0.W (List.range ops.size) ⟨env, H ++ bornCells E.T ops, []⟩ with
      | some s => if s.W.all (s0.W.contains ·) then some (s.env, s.H, s.W) else none
      | none => none
    | none => none
  else none
end Go.Ev
end

/- The evaluator E: regions that draw their order and write: any order gives the same. -/
section
namespace Go.Ev
open Go
set_option linter.unusedSimpArgs false
set_option linter.unusedVariables false

section
variable {E : EP} {cf : CallF} {ops : Array Oper} {base : Nat} {H1 : Heap} {Wl : List Nat}

theorem run_states : ∀ (m i : Nat) (s s' : DS), drawRun E cf ops base H1 Wl (List.range' i m) s = some s' →
    ∃ st : Nat → DS, st i = s ∧ st (i + m) = s' ∧ ∀ j, i ≤ j → j < i + m → ∃ o, ops[j]? = some o ∧ drawStep E cf ops base H1 Wl j o (st j) = some (st (j + 1)) := by
  intro m
  induction m with
  | zero =>
    intro i s s' h
    simp only [List.range'_zero, drawRun] at h
    injection h with h
    exact ⟨fun _ => s, rfl, h, fun j h1 h2 => by omega⟩
  | succ m ih =>
    intro i s s' h
    simp only [List.range'_succ, drawRun] at h
    split at h
    · cases h
    · rename_i o ho
      split at h
      · rename_i s1 hs1
        obtain ⟨st, g1, g2, g3⟩ := ih (i + 1) s1 s' h
        refine ⟨fun j => if j ≤ i then s else st j, by simp, by show (if i + (m + 1) ≤ i then s else st (i + (m + 1))) = s'; rw [if_neg (by omega), show i + (m + 1) = i + 1 + m by omega]; exact g2, fun j h1 h2 => ?_⟩
        by_cases e : j = i
        · subst e
          refine ⟨o, ho, ?_⟩
          simp only [Nat.le_refl, if_true]
          rw [if_neg (by omega), g1]
          exact hs1
        · obtain ⟨o', h3, h4⟩ := g3 j (by omega) (by omega)
          refine ⟨o', h3, ?_⟩
          simp only [if_neg (show ¬ j ≤ i by omega), if_neg (show ¬ j + 1 ≤ i by omega)]
          exact h4
      · cases h

/-- What one operation did. -/
inductive Kd (E : EP) (cf : CallF) (ops : Array Oper) (base : Nat) (H1 : Heap) (Wl : List Nat) (i : Nat) (o : Oper) (s s' : DS) (v : EV) : Prop where
  | birth (cs : List EV) (h : birthAt E.T ops i = some cs) (hv : v = .ptr (base + (bornBefore E.T ops i).length) 0) (hH : s'.H = s.H) (hW : s'.W = s.W)
  | unwanted (hb : birthAt E.T ops i = none) (h : wantE ops (restr (o.looksAt ops) s.env) o = some false) (hv : v = .undef) (hH : s'.H = s.H) (hW : s'.W = s.W)
  | callN (hw : wantE ops (restr (o.looksAt ops) s.env) o = some true) (ha : isActive o.op = true) (hc : isCallV o.op = true) (hbn : bornBefore E.T ops ops.size = []) (W : List Nat) (h : stepE E cf (restr (o.looksAt ops) s.env) s.H o.op = some (v, s'.H, W)) (hW : s'.W = s.W ++ W)
  | call (hbn : bornBefore E.T ops ops.size ≠ []) (hw : wantE ops (restr (o.looksAt ops) s.env) o = some true) (ha : isActive o.op = true) (hc : isCallV o.op = true) (H' : Heap) (h : stepE E cf (restr (o.looksAt ops) s.env) (lookH E.T ops base o s.H) o.op = some (v, H', [])) (hl : H'.length = (lookH E.T ops base o s.H).length) (hH : s'.H = s.H) (hW : s'.W = s.W)
  | active (hw : wantE ops (restr (o.looksAt ops) s.env) o = some true) (ha : isActive o.op = true) (hc : isCallV o.op = false) (H' : Heap) (W : List Nat) (h : stepE E cf (restr (o.looksAt ops) s.env) (lookH E.T ops base o s.H) o.op = some (v, H', W)) (hWd : ∀ p ∈ W, deadAt (lookH E.T ops base o s.H) p = false) (v2 : EV) (W2 : List Nat) (h2 : opE E (restr (o.looksAt ops) s.env) s.H o.op = some (v2, s'.H, W2)) (hW : s'.W = s.W ++ W)
  | passive (hb : birthAt E.T ops i = none) (hw : wantE ops (restr (o.looksAt ops) s.env) o = some true) (ha : isActive o.op = false) (H' : Heap) (h : opE E (restr (o.looksAt ops) s.env) (passH E.T ops base H1 Wl i) o.op = some (v, H', [])) (hl : H'.length = H1.length) (hH : s'.H = s.H) (hW : s'.W = s.W)

theorem drawStep_spec {i : Nat} {o : Oper} {s s' : DS} (h : drawStep E cf ops base H1 Wl i o s = some s') : ∃ v, s'.env = putE s.env o.dst v ∧ Kd E cf ops base H1 Wl i o s s' v := by
  unfold drawStep at h
  split at h
  · rename_i cs hb
    injection h with h
    subst h
    exact ⟨_, rfl, .birth cs hb rfl rfl rfl⟩
  · rename_i hb
    dsimp only at h
    split at h
    · rename_i hw
      injection h with h
      subst h
      exact ⟨_, rfl, .unwanted hb hw rfl rfl rfl⟩
    · rename_i hw
      split at h
      · rename_i ha
        split at h
        · rename_i v H' W hs
          split at h
          · rename_i hc
            split at h
            · rename_i hbn
              injection h with h
              subst h
              refine ⟨_, rfl, .callN hw ha hc hbn W ?_ rfl⟩
              unfold lookH at hs
              rw [if_pos hbn] at hs
              exact hs
            · rename_i hbn
              split at h
              · rename_i hq
                injection h with h
                subst h
                obtain ⟨rfl, hl⟩ := hq
                exact ⟨_, rfl, .call hbn hw ha hc H' hs hl rfl rfl⟩
              · cases h
          · rename_i hc
            split at h
            · rename_i hWd
              split at h
              · rename_i v2 H2 W2 h2
                injection h with h
                subst h
                refine ⟨_, rfl, .active hw ha (by simpa using hc) H' W hs (fun p hp => ?_) v2 W2 h2 rfl⟩
                have := List.all_eq_true.1 hWd p hp
                rw [Bool.not_eq_true'] at this
                exact this
              · cases h
            · cases h
        · cases h
      · rename_i ha
        split at h
        · rename_i v H' W hs
          split at h
          · rename_i hq
            injection h with h
            subst h
            obtain ⟨rfl, hl⟩ := hq
            exact ⟨_, rfl, .passive hb hw (by simpa using ha) H' hs hl rfl rfl⟩
          · cases h
        · cases h
    · cases h

/-- The values, and the temporaries at each operation. -/
theorem run_vals (hc : calm ops = true) {env : Env} {s' : DS} {H0 : Heap} {W0 : List Nat} (h : drawRun E cf ops base H1 Wl (List.range ops.size) ⟨env, H0, W0⟩ = some s') :
    ∃ (st : Nat → DS) (vals : Nat → EV), st 0 = ⟨env, H0, W0⟩ ∧ st ops.size = s' ∧ (∀ i, i ≤ ops.size → Made ops vals env (fun j => j < i) (st i).env) ∧
      ∀ i o, ops[i]? = some o → Kd E cf ops base H1 Wl i o (st i) (st (i + 1)) (vals i) := by
  rw [List.range_eq_range'] at h
  obtain ⟨st, g1, g2, g3⟩ := run_states _ _ _ _ h
  have hex : ∀ i, ∃ v, ∀ o, ops[i]? = some o → (st (i + 1)).env = putE (st i).env o.dst v ∧ Kd E cf ops base H1 Wl i o (st i) (st (i + 1)) v := by
    intro i
    by_cases hi : i < ops.size
    · obtain ⟨o, ho, hs⟩ := g3 i (by omega) (by omega)
      obtain ⟨v, h1, h2⟩ := drawStep_spec hs
      exact ⟨v, fun o' ho' => by rw [ho] at ho'; injection ho' with ho'; subst ho'; exact ⟨h1, h2⟩⟩
    · exact ⟨.undef, fun o ho => by have := (Array.getElem?_eq_some_iff.1 ho).1; omega⟩
  obtain ⟨vals, hv⟩ := Classical.axiomOfChoice hex
  refine ⟨st, vals, g1, by rw [← g2, Nat.zero_add], ?_, fun i o ho => (hv i o ho).2⟩
  intro i
  induction i with
  | zero => intro _; rw [g1]; exact ⟨rfl, fun j t hj => absurd hj (by omega), fun _ _ => rfl⟩
  | succ i ih =>
    intro hi
    obtain ⟨o, ho, _⟩ := g3 i (by omega) (by omega)
    have := (ih (by omega)).put hc ho
    rw [← (hv i o ho).1] at this
    exact ⟨this.1, fun j t hj => this.2.1 j t (by omega), fun t hn => this.2.2 t (fun j hj => hn j (by omega))⟩

theorem maskE_get {H : Heap} {dead : Nat → Bool} (o : Nat) : (maskE H dead)[o]? = (H[o]?).map fun x => if dead o then .dead else x := by
  unfold maskE
  rw [List.getElem?_map, List.getElem?_zipIdx]
  cases H[o]? <;> simp
theorem maskE_length {H : Heap} {dead : Nat → Bool} : (maskE H dead).length = H.length := by simp [maskE]
/-- Less dead, more heap. -/
theorem mask_sub {H : Heap} {d d' : Nat → Bool} (h : ∀ o, d' o = true → d o = true) : Sub (maskE H d) (maskE H d') := by
  refine ⟨by rw [maskE_length, maskE_length], fun o x hx hn => ?_⟩
  rw [maskE_get] at hx ⊢
  cases ho : H[o]? with
  | none => rw [ho] at hx; cases hx
  | some y =>
    rw [ho] at hx
    simp only [Option.map_some, Option.some.injEq] at hx ⊢
    by_cases hd : d o = true
    · rw [if_pos hd] at hx; exact absurd hx.symm hn
    · rw [if_neg hd] at hx
      rw [if_neg (fun e => hd (h o e))]
      exact hx
theorem look_none {T : TT} {o : Oper} {H : Heap} (h : bornBefore T ops ops.size = []) : lookH T ops base o H = H := by
  unfold lookH
  rw [if_pos h]
theorem look_some {T : TT} {o : Oper} {H : Heap} (h : bornBefore T ops ops.size ≠ []) : lookH T ops base o H = maskE H fun p => (bornBefore T ops ops.size).zipIdx.any fun q => p == base + q.2 && !(waitsOn o).contains q.1 := by
  unfold lookH
  rw [if_neg h]
theorem mask_sub_all {H : Heap} {d : Nat → Bool} : Sub (maskE H d) H := by
  refine ⟨maskE_length, fun o x hx hn => ?_⟩
  rw [maskE_get] at hx
  cases ho : H[o]? with
  | none => rw [ho] at hx; cases hx
  | some y =>
    rw [ho] at hx
    simp only [Option.map_some, Option.some.injEq] at hx
    split at hx
    · exact absurd hx.symm hn
    · rw [hx]
theorem look_sub {T : TT} {o : Oper} {H : Heap} : Sub (lookH T ops base o H) H := by
  by_cases h : bornBefore T ops ops.size = []
  · rw [look_none h]; exact Sub.refl
  · rw [look_some h]; exact mask_sub_all
theorem step_op {l : Look} {H H' : Heap} {op : Op} {v : EV} {W : List Nat} (hc : isCallV op = false) (h : stepE E cf l H op = some (v, H', W)) : opE E l H op = some (v, H', W) := by
  unfold stepE at h
  split at h
  · simp [isCallV] at hc
  · exact h

/-- An operation that is not active leaves E's heap; one that is, leaves what it does not write. -/
theorem Kd.same {i : Nat} {o : Oper} {s s' : DS} {v : EV} (h : Kd E cf ops base H1 Wl i o s s' v) (ha : isActive o.op = false) : s'.H = s.H := by
  cases h with
  | birth _ _ _ hH _ => exact hH
  | unwanted _ _ _ hH _ => exact hH
  | callN _ h _ => rw [ha] at h; cases h
  | call _ _ h _ => rw [ha] at h; cases h
  | active _ h => rw [ha] at h; cases h
  | passive _ _ _ _ _ _ hH _ => exact hH
theorem Kd.keeps (hne : bornBefore E.T ops ops.size ≠ []) {i : Nat} {o : Oper} {s s' : DS} {v : EV} (h : Kd E cf ops base H1 Wl i o s s' v) {p : Nat} (hp : p < s.H.length) (hd : deadAt (lookH E.T ops base o s.H) p = true) : s'.H[p]? = s.H[p]? := by
  cases h with
  | birth _ _ _ hH _ => rw [hH]
  | unwanted _ _ _ hH _ => rw [hH]
  | callN _ _ _ hbn => exact absurd hbn hne
  | call _ _ _ _ _ _ _ hH _ => rw [hH]
  | passive _ _ _ _ _ _ hH _ => rw [hH]
  | active hw ha hc H' W h hWd v2 W2 h2 hW =>
    obtain ⟨Hs', g1, _, g2, _⟩ := opE_ext (look_sub : Sub (lookH E.T ops base o s.H) s.H) (step_op hc h)
    rw [g1] at h2
    injection h2 with h2
    injection h2 with _ h2
    injection h2 with h2 _
    rw [← h2]
    exact g2 p hp (fun hm => by rw [hWd p hm] at hd; cases hd)
theorem Kd.grows (hcG : CfGrw cf) {i : Nat} {o : Oper} {s s' : DS} {v : EV} (h : Kd E cf ops base H1 Wl i o s s' v) : s.H.length ≤ s'.H.length := by
  cases h with
  | birth _ _ _ hH _ => rw [hH]; exact Nat.le_refl _
  | unwanted _ _ _ hH _ => rw [hH]; exact Nat.le_refl _
  | callN _ _ _ _ W h _ => exact (stepE_grw hcG h).1
  | call _ _ _ _ _ _ _ hH _ => rw [hH]; exact Nat.le_refl _
  | passive _ _ _ _ _ _ hH _ => rw [hH]; exact Nat.le_refl _
  | active hw ha hc H' W h hWd v2 W2 h2 hW => exact (opE_grw h2).1

/-- Between two points where nothing active lies, E's heap is one. -/
theorem heaps_same {st : Nat → DS} {vals : Nat → EV} (hk : ∀ i o, ops[i]? = some o → Kd E cf ops base H1 Wl i o (st i) (st (i + 1)) (vals i)) : ∀ (m p : Nat), p + m ≤ ops.size → (∀ j, p ≤ j → j < p + m → activeAt ops j = false) → (st (p + m)).H = (st p).H := by
  intro m
  induction m with
  | zero => intro p _ _; rfl
  | succ m ih =>
    intro p hp hn
    have ho : ops[p + m]? = some ops[p + m] := Array.getElem?_eq_getElem (by omega)
    have ha := hn (p + m) (by omega) (by omega)
    unfold activeAt at ha
    rw [ho] at ha
    have := (hk _ _ ho).same ha
    rw [show p + (m + 1) = p + m + 1 by omega, this]
    exact ih p (by omega) (fun j h1 h2 => hn j h1 (by omega))
theorem heaps_grow (hcG : CfGrw cf) {st : Nat → DS} {vals : Nat → EV} (hk : ∀ i o, ops[i]? = some o → Kd E cf ops base H1 Wl i o (st i) (st (i + 1)) (vals i)) : ∀ p, p ≤ ops.size → (st 0).H.length ≤ (st p).H.length := by
  intro p
  induction p with
  | zero => intro _; exact Nat.le_refl _
  | succ p ih =>
    intro hp
    have ho : ops[p]? = some ops[p] := Array.getElem?_eq_getElem (by omega)
    exact Nat.le_trans (ih (by omega)) ((hk _ _ ho).grows hcG)
/-- The place of what is born stays as it is till something active waits on it. -/
theorem place_stays (hcG : CfGrw cf) {st : Nat → DS} {vals : Nat → EV} (hk : ∀ i o, ops[i]? = some o → Kd E cf ops base H1 Wl i o (st i) (st (i + 1)) (vals i)) {b q : Nat} (hq : (bornBefore E.T ops ops.size)[q]? = some b) (hlen : base + q < (st 0).H.length) :
    ∀ p, p ≤ ops.size → (∀ j, j < p → activeAt ops j = true → b ∉ waitsAt ops j) → (st p).H[base + q]? = (st 0).H[base + q]? := by
  intro p
  induction p with
  | zero => intro _ _; rfl
  | succ p ih =>
    intro hp hn
    have ho : ops[p]? = some ops[p] := Array.getElem?_eq_getElem (by omega)
    have h1 := ih (by omega) (fun j hj => hn j (by omega))
    rw [← h1]
    by_cases ha : activeAt ops p = true
    · have hb := hn p (by omega) ha
      refine (hk _ _ ho).keeps (fun e => by rw [e] at hq; cases hq) (by have := heaps_grow hcG hk p (by omega); omega) ?_
      unfold deadAt
      rw [look_some (fun e => by rw [e] at hq; cases hq), maskE_get]
      have hany : ((bornBefore E.T ops ops.size).zipIdx.any fun x => base + q == base + x.2 && !(waitsOn ops[p]).contains x.1) = true := by
        rw [List.any_eq_true]
        refine ⟨(b, q), ?_, ?_⟩
        · rw [List.mem_iff_getElem?]
          exact ⟨q, by rw [List.getElem?_zipIdx, hq]; simp⟩
        · unfold waitsAt at hb
          rw [ho] at hb
          simpa using hb
      rw [hany]
      cases (st p).H[base + q]? <;> simp
    · have : isActive ops[p].op = false := by
        unfold activeAt at ha
        rw [ho] at ha
        simpa using ha
      rw [(hk _ _ ho).same this]
end
end Go.Ev
end

/- The evaluator E: regions that draw their order and write: whatever order is drawn, E's answer is right. -/
section
namespace Go.Ev
open Go
set_option linter.unusedSimpArgs false
set_option linter.unusedVariables false

/-- The places of what is not yet born. -/
def unb (bb : List Nat) (base : Nat) (listed : Array Bool) (o : Nat) : Bool := bb.zipIdx.any fun x => o == base + x.2 && !listed.getD x.1 false

section
variable {P : Program} {E : EP} {cf : CallF} {Fr Fr' Fr2 : Nat → Nat → Prop} {w w' w2 : World} {β β' β2 : Bt} {H H' : Heap} {env e : Env} {a a' : Act} {ops : Array Oper} {T : TT} {bb : List Nat} {base : Nat} {listed : Array Bool} {ds : List Deferred}

theorem unb_iff {o : Nat} : unb bb base listed o = true ↔ ∃ q b, bb[q]? = some b ∧ o = base + q ∧ listed.getD b false = false := by
  unfold unb
  rw [List.any_eq_true]
  constructor
  · rintro ⟨⟨b, q⟩, hm, h⟩
    rw [List.mk_mem_zipIdx_iff_getElem?] at hm
    simp only [Bool.and_eq_true, beq_iff_eq, Bool.not_eq_true'] at h
    exact ⟨q, b, hm, h.1, h.2⟩
  · rintro ⟨q, b, h1, h2, h3⟩
    exact ⟨(b, q), by rw [List.mk_mem_zipIdx_iff_getElem?]; exact h1, by simp [h2, h3]⟩
theorem look_iff {o : Oper} {p : Nat} : ((bornBefore T ops ops.size).zipIdx.any fun q => p == base + q.2 && !(waitsOn o).contains q.1) = true ↔ ∃ q b, (bornBefore T ops ops.size)[q]? = some b ∧ p = base + q ∧ b ∉ waitsOn o := by
  rw [List.any_eq_true]
  constructor
  · rintro ⟨⟨b, q⟩, hm, h⟩
    rw [List.mk_mem_zipIdx_iff_getElem?] at hm
    simp only [Bool.and_eq_true, beq_iff_eq, Bool.not_eq_true', List.contains_eq_mem, decide_eq_false_iff_not] at h
    exact ⟨q, b, hm, h.1, h.2⟩
  · rintro ⟨q, b, h1, h2, h3⟩
    exact ⟨(b, q), by rw [List.mk_mem_zipIdx_iff_getElem?]; exact h1, by simp [h2, h3]⟩

theorem bb_mem {n q b : Nat} (h : (bornBefore T ops n)[q]? = some b) : b < n ∧ (birthAt T ops b).isSome = true := by
  have := List.mem_of_getElem? h
  unfold bornBefore at this
  rw [List.mem_filter] at this
  exact ⟨List.mem_range.1 this.1, this.2⟩
theorem bb_rank {n i : Nat} (hi : i < n) (h : (birthAt T ops i).isSome = true) : (bornBefore T ops n)[(bornBefore T ops i).length]? = some i := by
  unfold bornBefore
  have hr : List.range n = List.range i ++ (i :: List.range' (i + 1) (n - i - 1)) := by
    have e : List.range' i (n - i) = i :: List.range' (i + 1) (n - i - 1) := by
      rw [show n - i = (n - i - 1) + 1 by omega, List.range'_succ]
      simp
    have e2 := @List.range'_append_1 0 i (n - i)
    rw [Nat.zero_add, show i + (n - i) = n by omega] at e2
    rw [List.range_eq_range', List.range_eq_range', ← e, e2]
  rw [hr, List.filter_append, List.filter_cons_of_pos (by simpa using h), List.getElem?_append_right (Nat.le_refl _), Nat.sub_self]
  rfl
theorem bb_inj {n q q' b : Nat} (h : (bornBefore T ops n)[q]? = some b) (h' : (bornBefore T ops n)[q']? = some b) : q = q' :=
  (List.getElem?_inj (List.getElem?_eq_some_iff.1 h).1 (List.nodup_range.filter _)).1 (h.trans h'.symm)
theorem filterMap_get {f : Nat → Option EO} : ∀ (l : List Nat) (q : Nat), (l.filterMap f)[q]? = ((l.filter fun j => (f j).isSome)[q]?).bind f
  | [], q => by simp
  | x :: l, q => by
    cases hx : f x with
    | none => rw [List.filterMap_cons_none hx, List.filter_cons_of_neg (by simp [hx])]; exact filterMap_get l q
    | some y =>
      rw [List.filterMap_cons_some hx, List.filter_cons_of_pos (by simp [hx])]
      cases q with
      | zero => simp [hx]
      | succ q => simpa using filterMap_get l q
theorem bornCells_get {q b : Nat} {cs : List EV} (h : (bornBefore T ops ops.size)[q]? = some b) (hb : birthAt T ops b = some cs) : (bornCells T ops)[q]? = some (.cells cs) := by
  unfold bornCells
  rw [filterMap_get]
  unfold bornBefore at h
  simp only [Option.isSome_map]
  rw [h]
  simp [hb]
theorem bornCells_length : (bornCells T ops).length = (bornBefore T ops ops.size).length := by
  unfold bornCells bornBefore
  generalize List.range ops.size = l
  induction l with
  | nil => rfl
  | cons x l ih =>
    cases hx : birthAt T ops x with
    | none => rw [List.filterMap_cons_none (by simp [hx]), List.filter_cons_of_neg (by simp [hx])]; exact ih
    | some y => rw [List.filterMap_cons_some (by simp [hx]; rfl), List.filter_cons_of_pos (by simp [hx])]; simp [ih]
theorem birth_spec {i : Nat} {o : Oper} {cs : List EV} (h : birthAt T ops i = some cs) (ho : ops[i]? = some o) : ∃ (t : Nat) (te : TI), o.op = .alloc t ∧ o.guard = none ∧ T t = some te ∧ cs = te.zero ∧ te.zero.all EV.one = true := by
  unfold birthAt at h
  rw [ho] at h
  split at h
  · rename_i e
    injection e with e
    subst e
    split at h
    · rename_i te hte
      split at h
      · rename_i h1
        injection h with h
        exact ⟨_, te, rfl, rfl, hte, h.symm, h1⟩
      · cases h
    · cases h
  · cases h
theorem birth_active {i : Nat} {cs : List EV} (h : birthAt T ops i = some cs) : activeAt ops i = false := by
  cases ho : ops[i]? with
  | none => unfold activeAt; rw [ho]
  | some o =>
    obtain ⟨t, te, h1, _⟩ := birth_spec h ho
    unfold activeAt
    rw [ho]
    simp [h1, isActive]

theorem last_filter {p : Nat → Bool} : ∀ (n j : Nat), j < n → p j = true → ∃ k, ((List.range n).filter p).getLast? = some k ∧ j ≤ k ∧ k < n ∧ p k = true
  | 0, j, h, _ => by omega
  | n + 1, j, h, hp => by
    rw [List.range_succ, List.filter_append]
    by_cases hn : p n = true
    · exact ⟨n, by simp [hn], by omega, by omega, hn⟩
    · have hj : j < n := by
        rcases Nat.lt_or_eq_of_le (Nat.le_of_lt_succ h) with h | h
        · exact h
        · subst h; exact absurd hp hn
      obtain ⟨k, h1, h2, h3, h4⟩ := last_filter n j hj hp
      exact ⟨k, by simp [hn, h1], h2, by omega, h4⟩
theorem lined_spec (h : lined ops = true) {i j : Nat} {o : Oper} (ho : ops[i]? = some o) (ha : isActive o.op = true) (hj : j < i) (hja : activeAt ops j = true) : ∃ k, k ∈ waitsOn o ∧ j ≤ k ∧ k < i ∧ activeAt ops k = true := by
  unfold lined at h
  rw [List.all_eq_true] at h
  have := h i (List.mem_range.2 (Array.getElem?_eq_some_iff.1 ho).1)
  rw [ho] at this
  obtain ⟨k, h1, h2, h3, h4⟩ := last_filter i j hj hja
  simp only [h1, ha, Bool.not_true, Bool.false_or, List.contains_eq_mem, decide_eq_true_eq] at this
  exact ⟨k, this, h2, h3, h4⟩

theorem set_getD {i : Nat} (hi : i < listed.size) (j : Nat) : (listed.setIfInBounds i true).getD j false = if j = i then true else listed.getD j false := by
  by_cases e : j = i
  · subst e
    rw [if_pos rfl]
    simp [Array.getD_eq_getD_getElem?, hi]
  · rw [if_neg e]
    simp [Array.getD_eq_getD_getElem?, Array.getElem?_setIfInBounds_ne (fun e' => e e'.symm)]
theorem unb_other {i : Nat} (hi : i < listed.size) (hb : birthAt T ops i = none) : unb (bornBefore T ops ops.size) base (listed.setIfInBounds i true) = unb (bornBefore T ops ops.size) base listed := by
  funext o
  rw [Bool.eq_iff_iff, unb_iff, unb_iff]
  constructor
  · rintro ⟨q, b, h1, h2, h3⟩
    rw [set_getD hi] at h3
    split at h3
    · cases h3
    · exact ⟨q, b, h1, h2, h3⟩
  · rintro ⟨q, b, h1, h2, h3⟩
    refine ⟨q, b, h1, h2, ?_⟩
    rw [set_getD hi, if_neg]
    · exact h3
    · intro e
      subst e
      have := (bb_mem h1).2
      rw [hb] at this
      cases this
theorem unb_born {i q : Nat} (hi : i < listed.size) (hq : (bornBefore T ops ops.size)[q]? = some i) {Hp : Heap} {x : EO} (hx : Hp[base + q]? = some x) :
    maskE Hp (unb (bornBefore T ops ops.size) base (listed.setIfInBounds i true)) = (maskE Hp (unb (bornBefore T ops ops.size) base listed)).set (base + q) x := by
  apply List.ext_getElem?
  intro o
  rw [maskE_get, List.getElem?_set, maskE_length, maskE_get]
  by_cases e : base + q = o
  · subst e
    rw [if_pos rfl, if_pos (List.getElem?_eq_some_iff.1 hx).1, hx]
    have : unb (bornBefore T ops ops.size) base (listed.setIfInBounds i true) (base + q) = false := by
      rw [Bool.eq_false_iff]
      intro h
      obtain ⟨q', b, h1, h2, h3⟩ := unb_iff.1 h
      have : q' = q := by omega
      subst this
      rw [hq] at h1
      injection h1 with h1
      subst h1
      rw [set_getD hi, if_pos rfl] at h3
      cases h3
    simp [this]
  · rw [if_neg e]
    have : unb (bornBefore T ops ops.size) base (listed.setIfInBounds i true) o = unb (bornBefore T ops ops.size) base listed o := by
      rw [Bool.eq_iff_iff, unb_iff, unb_iff]
      constructor
      · rintro ⟨q', b, h1, h2, h3⟩
        rw [set_getD hi] at h3
        split at h3
        · cases h3
        · exact ⟨q', b, h1, h2, h3⟩
      · rintro ⟨q', b, h1, h2, h3⟩
        refine ⟨q', b, h1, h2, ?_⟩
        rw [set_getD hi, if_neg]
        · exact h3
        · intro eb
          subst eb
          have := bb_inj h1 hq
          subst this
          exact e h2.symm
    rw [this]

theorem op_ok' {l : Look} (hT : E.T = tiOf P) {o : Oper} {v : EV} {W : List Nat} {next : Act → World → Prop} {Q : Exit → Act → World → Prop} (hr : Rel Fr β H w) (hopd : Opd Fr w β E.G l a.eval) (h : opE E l H o.op = some (v, H', W))
    (hn : ∀ Fr' β' w' val, Ok Fr β H w Fr' β' H' w' → VR Fr' w' β' v val → next (a.put o.dst val) w') : o.wp P a w next Q := by
  obtain ⟨nx, w', Fr', β', h1, h2, h3⟩ := opE_ok hr hT hopd (fun _ => rfl) h
  unfold Oper.wp
  rw [h1]
  cases h3 with
  | value hv => exact hn _ _ _ _ h2 hv
  | skip => exact hn _ _ _ _ h2 .undef

/-- Where the real run is: what is listed is done. -/
structure Inv (ds : List Deferred) (ops : Array Oper) (st : Nat → DS) (vals : Nat → EV) (bb : List Nat) (base : Nat) (env : Env) (Fr : Nat → Nat → Prop) (β : Bt) (H : Heap) (w : World) (listed : Array Bool) (p : Nat) (Fr' : Nat → Nat → Prop) (β' : Bt) (w' : World) (a' : Act) (e : Env) : Prop where
  size : listed.size = ops.size
  hp : p ≤ ops.size
  act : ∀ j, activeAt ops j = true → (listed.getD j false = true ↔ j < p)
  ok : Ok Fr β H w Fr' β' (maskE (st p).H (unb bb base listed)) w'
  unborn : ∀ q b, bb[q]? = some b → listed.getD b false = false → β'[base + q]? = some none
  ar : AR ds Fr' w' β' e a'
  made : Made ops vals env (fun j => listed.getD j false = true) e
  cl : ∀ j, listed.getD j false = true → ∀ k ∈ waitsAt ops j, listed.getD k false = true

theorem Inv.next (hc : calm ops = true) {st : Nat → DS} {vals : Nat → EV} {p p' i : Nat} (h : Inv ds ops st vals bb base env Fr β H w listed p Fr' β' w' a' e) {o : Oper} (ho : ops[i]? = some o) (hwait : ∀ j ∈ waitsOn o, listed.getD j false = true)
    (hp' : p' ≤ ops.size) (hact : ∀ j, activeAt ops j = true → ((listed.setIfInBounds i true).getD j false = true ↔ j < p')) {val : Value}
    (ok : Ok Fr β H w Fr2 β2 (maskE (st p').H (unb bb base (listed.setIfInBounds i true))) w2) (hnone : ∀ q b, bb[q]? = some b → (listed.setIfInBounds i true).getD b false = false → β2[base + q]? = some none) (ar : AR ds Fr2 w2 β2 e a') (hv : VR Fr2 w2 β2 (vals i) val) :
    Inv ds ops st vals bb base env Fr β H w (listed.setIfInBounds i true) p' Fr2 β2 w2 (a'.put o.dst val) (putE e o.dst (vals i)) := by
  have his : i < listed.size := by rw [h.size]; exact (Array.getElem?_eq_some_iff.1 ho).1
  have hcl2 : ∀ j, (listed.setIfInBounds i true).getD j false = true → ∀ k ∈ waitsAt ops j, (listed.setIfInBounds i true).getD k false = true := by
    intro j hj k hk
    rw [set_getD his] at hj ⊢
    by_cases ek : k = i
    · rw [if_pos ek]
    · rw [if_neg ek]
      by_cases ej : j = i
      · subst ej
        refine hwait k ?_
        unfold waitsAt at hk
        rw [ho] at hk
        exact hk
      · rw [if_neg ej] at hj
        exact h.cl j hj k hk
  refine ⟨by simpa using h.size, hp', hact, ok, hnone, ar.put hv _, ?_, hcl2⟩
  have := h.made.put hc ho
  refine ⟨this.1, fun j t hj hd hlt => this.2.1 j t ?_ hd hlt, fun t hn => this.2.2 t fun j hj => hn j ?_⟩
  · have hj' : (listed.setIfInBounds i true).getD j false = true := hj
    rw [set_getD his] at hj'
    by_cases e : j = i
    · exact .inr e
    · rw [if_neg e] at hj'
      exact .inl hj'
  · show (listed.setIfInBounds i true).getD j false = true
    rw [set_getD his]
    rcases hj with hj | hj
    · split
      · rfl
      · exact hj
    · rw [if_pos hj]
end
end Go.Ev
end
