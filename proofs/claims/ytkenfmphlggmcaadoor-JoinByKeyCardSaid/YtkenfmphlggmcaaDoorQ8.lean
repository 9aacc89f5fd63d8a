/- The evaluator E: regions that draw their order and write: one step of the real run, and the whole. -/
import Derived.Test.YtkenfmphlggmcaaDoorQ7

section
namespace Go.Ev
open Go
set_option linter.unusedSimpArgs false
set_option linter.unusedVariables false

section
variable {P : Program} {E : EP} {cf : CallF} {Fr Fr' Fr2 : Nat → Nat → Prop} {w w' w2 : World} {β β' β2 : Bt} {H H' : Heap} {env e : Env} {a a' : Act} {ops : Array Oper} {listed : Array Bool} {st : Nat → DS} {vals : Nat → EV} {Wl : List Nat} {ds : List Deferred}

theorem Kd.same' {base : Nat} {H1 : Heap} {i : Nat} {o : Oper} {s s' : DS} {v : EV} (h : Kd E cf ops base H1 Wl i o s s' v) (ha : isActive o.op = false ∨ (isCallV o.op = true ∧ bornBefore E.T ops ops.size ≠ [])) : s'.H = s.H := by
  cases h with
  | birth _ _ _ hH _ => exact hH
  | unwanted _ _ _ hH _ => exact hH
  | callN _ h1 _ hbn => rcases ha with ha | ha
                        · rw [ha] at h1; cases h1
                        · exact absurd hbn ha.2
  | call _ _ _ _ _ _ _ hH _ => exact hH
  | active _ h1 h2 => rcases ha with ha | ha
                      · rw [ha] at h1; cases h1
                      · rw [ha.1] at h2; cases h2
  | passive _ _ _ _ _ _ hH _ => exact hH
theorem heaps_calls {base : Nat} {H1 : Heap} (hk : ∀ i o, ops[i]? = some o → Kd E cf ops base H1 Wl i o (st i) (st (i + 1)) (vals i)) : ∀ p, p ≤ ops.size → (∀ j o, j < p → ops[j]? = some o → isActive o.op = false ∨ (isCallV o.op = true ∧ bornBefore E.T ops ops.size ≠ [])) → (st p).H = (st 0).H := by
  intro p
  induction p with
  | zero => intro _ _; rfl
  | succ p ih =>
    intro hp hn
    have ho : ops[p]? = some ops[p] := Array.getElem?_eq_getElem (by omega)
    rw [(hk _ _ ho).same' (hn p _ (by omega) ho)]
    exact ih (by omega) (fun j o hj => hn j o (by omega))

theorem Kd.grw (hcG : CfGrw cf) {base : Nat} {H1 : Heap} {i : Nat} {o : Oper} {s s' : DS} {v : EV} (h : Kd E cf ops base H1 Wl i o s s' v) : ∃ W, s'.W = s.W ++ W ∧ Grw s.H s'.H W := by
  cases h with
  | birth _ _ _ hH hW => exact ⟨[], by simp [hW], by rw [hH]; exact .refl⟩
  | unwanted _ _ _ hH hW => exact ⟨[], by simp [hW], by rw [hH]; exact .refl⟩
  | callN _ _ _ _ W h hW => exact ⟨W, hW, stepE_grw hcG h⟩
  | call _ _ _ _ _ _ _ hH hW => exact ⟨[], by simp [hW], by rw [hH]; exact .refl⟩
  | passive _ _ _ _ _ _ hH hW => exact ⟨[], by simp [hW], by rw [hH]; exact .refl⟩
  | active hw ha hcv H2 W hst hWd v2 W2 h2 hW =>
    obtain ⟨Hb, gb1, _⟩ := opE_ext (look_sub : Sub (lookH E.T ops base o s.H) s.H) (step_op hcv hst)
    rw [gb1] at h2
    injection h2 with h2
    injection h2 with _ h2
    injection h2 with h2 _
    exact ⟨W, hW, by rw [← h2]; exact opE_grw gb1⟩
/-- What is not written stays. -/
theorem heaps_W (hcG : CfGrw cf) {base : Nat} {H1 : Heap} (hk : ∀ i o, ops[i]? = some o → Kd E cf ops base H1 Wl i o (st i) (st (i + 1)) (vals i)) : ∀ m p, p + m ≤ ops.size → (∀ x ∈ (st p).W, x ∈ (st (p + m)).W) ∧ ∀ x, x < (st p).H.length → x ∉ (st (p + m)).W → (st (p + m)).H[x]? = (st p).H[x]? := by
  intro m
  induction m with
  | zero => intro p _; exact ⟨fun x hx => hx, fun x _ _ => rfl⟩
  | succ m ih =>
    intro p hp
    have ho : ops[p]? = some ops[p] := Array.getElem?_eq_getElem (by omega)
    obtain ⟨W, h1, h2⟩ := (hk _ _ ho).grw hcG
    obtain ⟨h3, h4⟩ := ih (p + 1) (by omega)
    rw [show p + (m + 1) = p + 1 + m by omega]
    have hsub : ∀ x ∈ (st (p + 1)).W, x ∈ (st (p + 1 + m)).W := h3
    refine ⟨fun x hx => h3 x (by rw [h1]; exact List.mem_append_left _ hx), fun x hx hn => ?_⟩
    rw [h4 x (Nat.lt_of_lt_of_le hx h2.1) hn]
    exact h2.2 x hx (fun hm => hn (h3 x (by rw [h1]; exact List.mem_append_right _ hm)))

theorem Inv.step (hc : calm ops = true) (hl : lined ops = true) (hWl : ∀ x ∈ (st ops.size).W, x ∈ Wl) (hT : E.T = tiOf P) (hcG : CfGrw cf) (hcall : CallOk P E.G cf) (hr : Rel Fr β H w) (hg : GOk E.G Fr w β)
    (h0 : (st 0).H = H ++ bornCells E.T ops) (hvals : ∀ i, i ≤ ops.size → Made ops vals env (fun j => j < i) (st i).env) (hk : ∀ i o, ops[i]? = some o → Kd E cf ops H.length (H ++ bornCells E.T ops) Wl i o (st i) (st (i + 1)) (vals i))
    {p : Nat} (h : Inv ds ops st vals (bornBefore E.T ops ops.size) H.length env Fr β H w listed p Fr' β' w' a' e) {i : Nat} (hi : i ∈ Region.ready .any ops listed) {Q : Exit → Act → World → Prop} {K : Act → World → Prop}
    (hnext : ∀ p' Fr2 β2 w2 a2 e2, Inv ds ops st vals (bornBefore E.T ops ops.size) H.length env Fr β H w (listed.setIfInBounds i true) p' Fr2 β2 w2 a2 e2 → K a2 w2) : wpOp P ops Q i K a' w' := by
  obtain ⟨o, ho, hli, hwait⟩ := ready_mem hi
  have his : i < ops.size := (Array.getElem?_eq_some_iff.1 ho).1
  have hisl : i < listed.size := by rw [h.size]; exact his
  have hun : listed.getD i false = false := by
    have : listed.getD i true = listed.getD i false := by simp [Array.getD, h.size, his]
    rw [← this]; exact hli
  have hsame : ∀ t v, restr (o.looksAt ops) (st i).env t = some v → look e t = some v := by
    intro t v htv
    unfold restr at htv
    split at htv
    · rename_i ht
      have := Made.same hc (hvals i (by omega)) h.made ho (fun j hj => (calm_spec hc ho).1 j hj) hwait (fun j hj hlt => by
        unfold waitsAt at hj
        split at hj
        · rename_i oj hoj
          have := (calm_spec hc hoj).1 i hj
          omega
        · cases hj) (fun j hj hlt => by
        have := h.cl j hlt i hj
        rw [hun] at this
        cases this) ht
      show e[t]? = some v
      rw [← this]
      exact htv
    · cases htv
  have hearlier : ∀ j, isActive o.op = true → activeAt ops j = true → j < i → j < p := by
    intro j ha hja hj
    obtain ⟨k, h1, h2, h3, h4⟩ := lined_spec hl ho ha hj hja
    have := (h.act k h4).1 (hwait k h1)
    omega
  have hge : isActive o.op = true → p ≤ i := by
    intro ha
    have hai : activeAt ops i = true := by unfold activeAt; rw [ho]; exact ha
    refine Nat.le_of_not_lt fun hlt => ?_
    have := (h.act i hai).2 hlt
    rw [hun] at this
    cases this
  have hHi : isActive o.op = true → (st i).H = (st p).H := by
    intro ha
    have hpi := hge ha
    have := heaps_same hk (i - p) p (by omega) (fun j h1 h2 => by
      cases hja : activeAt ops j with
      | false => rfl
      | true => have := hearlier j ha hja (by omega); omega)
    rwa [show p + (i - p) = i by omega] at this
  have hact1 : isActive o.op = true → ∀ j, activeAt ops j = true → ((listed.setIfInBounds i true).getD j false = true ↔ j < i + 1) := by
    intro ha j hja
    rw [set_getD hisl]
    split
    · rename_i e'; subst e'; simp
    · rename_i hne
      rw [h.act j hja]
      constructor
      · intro hj; have := hge ha; omega
      · intro hj; exact hearlier j ha hja (by omega)
  have hact0 : isActive o.op = false → ∀ j, activeAt ops j = true → ((listed.setIfInBounds i true).getD j false = true ↔ j < p) := by
    intro ha j hja
    rw [set_getD hisl]
    split
    · rename_i e'
      subst e'
      unfold activeAt at hja
      rw [ho] at hja
      have hja' : isActive o.op = true := hja
      rw [ha] at hja'
      cases hja'
    · exact h.act j hja
  have hg' := hg.step hr h.ok
  have hopd : Opd Fr' w' β' E.G (restr (o.looksAt ops) (st i).env) a'.eval := fun x ev hx => (h.ar.opd hg') x ev (evO_mono hsame hx)
  have hnone0 : ∀ β2 : Bt, (∀ o : Nat, β'[o]? = some none → β2[o]? = some none) → ∀ q b : Nat, (bornBefore E.T ops ops.size)[q]? = some b → (listed.setIfInBounds i true).getD b false = false → β2[H.length + q]? = some none := by
    intro β2 hβ q b h1 h2
    rw [set_getD hisl] at h2
    split at h2
    · cases h2
    · exact hβ _ (h.unborn q b h1 h2)
  have hlen0 : (st 0).H.length = H.length + (bornBefore E.T ops ops.size).length := by rw [h0, List.length_append, bornCells_length]
  unfold wpOp
  rw [ho]
  cases hk i o ho with
  | birth cs hb hv hH hW =>
    obtain ⟨t, te, h1, h2, h3, h4, h5⟩ := birth_spec hb ho
    have hwant : Region.wanted o (yielded ops a'.tmps) = true := want_ok h.ar (by unfold wantE; rw [h2])
    simp only [hwant, if_true]
    left
    have hq := bb_rank his (by rw [hb]; rfl)
    generalize (bornBefore E.T ops i).length = r at hq hv
    have hrn := h.unborn _ _ hq hun
    have hplace : (st p).H[H.length + r]? = some (.cells cs) := by
      rw [place_stays hcG hk hq (by rw [hlen0]; have := (List.getElem?_eq_some_iff.1 hq).1; omega) p h.hp (fun j hj hja hw => ?_), h0, List.getElem?_append_right (by omega), Nat.add_sub_cancel_left]
      · exact bornCells_get hq hb
      · have := h.cl j ((h.act j hja).2 hj) i hw
        rw [hun] at this
        cases this
    have hdead : (maskE (st p).H (unb (bornBefore E.T ops ops.size) H.length listed))[H.length + r]? = some .dead := by
      rw [maskE_get, hplace]
      simp [unb_iff.2 ⟨_, _, hq, rfl, hun⟩]
    rw [hT] at h3
    obtain ⟨z, hz, hzv⟩ := (tiOf_ok h3).zero (Fr := Fr') (β := β') w'
    obtain ⟨g1, g2, g3⟩ := Ok.birth h.ok hr.len (by omega) hrn hdead z.cells t (cs := cs) (by rw [h4]; exact hzv)
    have hrun : (execOp a'.eval o).run P w' = .ok (.value (.pointer (some ⟨w'.heap.size, 0, none⟩))) { w' with heap := w'.heap.push (.cells z.cells t) } := by
      obtain ⟨dst, op, ty, pos, after, guard⟩ := o
      simp only at h1
      subst h1
      simp only [execOp, Instr.alloc, Sem.run_bind, hz, Result.andThen_ok, newVar, newRow, run_newObj, Sem.run_pure]
    have hext : ∀ (o : Nat) (x : Nat × Nat), β'[o]? = some (some x) → (β'.set (H.length + r) (some (w'.heap.size, 0)))[o]? = some (some x) := fun o x hx => by
      rw [List.getElem?_set]
      split
      · rename_i e'; subst e'; rw [hrn] at hx; cases hx
      · exact hx
    unfold Oper.wp
    rw [hrun]
    refine hnext p _ _ _ _ _ (h.next hc ho hwait h.hp (hact0 (by rw [h1]; rfl)) (by rw [unb_born hisl hq hplace]; exact g1) (fun q b q1 q2 => ?_) ⟨h.ar.1, h.ar.2.mono hext (fun _ _ hx => hx) g2 g3⟩ ?_)
    · rw [set_getD hisl] at q2
      split at q2
      · cases q2
      · rename_i hne
        rw [List.getElem?_set, if_neg]
        · exact h.unborn q b q1 q2
        · intro e'
          have : r = q := by omega
          subst this
          rw [hq] at q1
          injection q1 with q1
          exact hne q1.symm
    · rw [hv]
      refine .ptr (s := 0) (i := 0) ?_
      rw [List.getElem?_set, if_pos rfl, if_pos (List.getElem?_eq_some_iff.1 hrn).1]
  | unwanted hb hw hv hH hW =>
    have hw' := wantE_mono hsame hw
    simp only [want_ok h.ar hw', Bool.false_eq_true, if_false]
    by_cases ha : isActive o.op = true
    · exact hnext (i + 1) Fr' β' w' _ _ (h.next hc ho hwait (by omega) (hact1 ha) (by rw [hH, hHi ha, unb_other hisl hb]; exact h.ok) (hnone0 β' (fun _ hx => hx)) h.ar (by rw [hv]; exact .undef))
    · rw [Bool.not_eq_true] at ha
      exact hnext p Fr' β' w' _ _ (h.next hc ho hwait h.hp (hact0 ha) (by rw [unb_other hisl hb]; exact h.ok) (hnone0 β' (fun _ hx => hx)) h.ar (by rw [hv]; exact .undef))
  | callN hw ha hcv hbn W hst hW =>
    have hai : activeAt ops i = true := by unfold activeAt; rw [ho]; exact ha
    have hb : birthAt E.T ops i = none := by
      cases hb : birthAt E.T ops i with
      | none => rfl
      | some cs => rw [birth_active hb] at hai; cases hai
    have hw' := wantE_mono hsame hw
    simp only [want_ok h.ar hw', if_true]
    left
    have hnm : ∀ (X : Heap) (l : Array Bool), maskE X (unb (bornBefore E.T ops ops.size) H.length l) = X := fun X l => by
      apply List.ext_getElem?
      intro x
      rw [maskE_get]
      have hu : unb (bornBefore E.T ops ops.size) H.length l x = false := by
        rw [Bool.eq_false_iff]
        intro hu
        obtain ⟨q, b, q1, q2, q3⟩ := unb_iff.1 hu
        rw [hbn] at q1
        cases q1
      rw [hu]
      cases X[x]? <;> simp
    have hok0 := h.ok
    rw [hnm] at hok0
    rw [hHi ha] at hst
    refine step_ok' hT hcall hok0.rel hg' hopd hst fun Fr2 β2 w2 val hok2 hval => ?_
    exact hnext (i + 1) Fr2 β2 w2 _ _ (h.next hc ho hwait (by omega) (hact1 ha) (by rw [hnm]; exact hok0.trans hok2) (hnone0 β2 hok2.ext') (h.ar.step hok0.rel hok2) hval)
  | call hbn hw ha hcv H2 hst hlen hH hW =>
    have hai : activeAt ops i = true := by unfold activeAt; rw [ho]; exact ha
    have hb : birthAt E.T ops i = none := by
      cases hb : birthAt E.T ops i with
      | none => rfl
      | some cs => rw [birth_active hb] at hai; cases hai
    have hw' := wantE_mono hsame hw
    simp only [want_ok h.ar hw', if_true]
    left
    have hsub : Sub (lookH E.T ops H.length o (st i).H) (maskE (st p).H (unb (bornBefore E.T ops ops.size) H.length listed)) := by
      rw [hHi ha, look_some hbn]
      exact mask_sub fun x hx => by
        obtain ⟨q, b, q1, q2, q3⟩ := unb_iff.1 hx
        exact look_iff.2 ⟨q, b, q1, q2, fun hm => by have := hwait b hm; rw [q3] at this; cases this⟩
    have hH2 : H2 = lookH E.T ops H.length o (st i).H := grw_same (stepE_grw hcG hst) hlen
    subst hH2
    refine step_ok' hT hcall (h.ok.rel.forget hsub) hg' hopd hst fun Fr2 β2 w2 val hok2 hval => ?_
    have hok3 := Ok.frame h.ok.rel hsub hok2
    exact hnext (i + 1) Fr2 β2 w2 _ _ (h.next hc ho hwait (by omega) (hact1 ha) (by rw [hH, hHi ha, unb_other hisl hb]; exact h.ok.trans hok3) (hnone0 β2 hok2.ext') (h.ar.step h.ok.rel hok3) hval)
  | active hw ha hcv H2 W hst hWd v2 W2 h2 hW =>
    have hai : activeAt ops i = true := by unfold activeAt; rw [ho]; exact ha
    have hb : birthAt E.T ops i = none := by
      cases hb : birthAt E.T ops i with
      | none => rfl
      | some cs => rw [birth_active hb] at hai; cases hai
    have hw' := wantE_mono hsame hw
    simp only [want_ok h.ar hw', if_true]
    left
    have hsub : Sub (lookH E.T ops H.length o (st i).H) (maskE (st p).H (unb (bornBefore E.T ops ops.size) H.length listed)) := by
      rw [hHi ha]
      by_cases hbn : bornBefore E.T ops ops.size = []
      · rw [look_none hbn]
        refine ⟨maskE_length.symm, fun x y hx hn => ?_⟩
        rw [maskE_get, hx]
        have hu : unb (bornBefore E.T ops ops.size) H.length listed x = false := by
          rw [Bool.eq_false_iff]
          intro hu
          obtain ⟨q, b, q1, q2, q3⟩ := unb_iff.1 hu
          rw [hbn] at q1
          cases q1
        rw [hu]
        simp
      · rw [look_some hbn]
        exact mask_sub fun x hx => by
          obtain ⟨q, b, q1, q2, q3⟩ := unb_iff.1 hx
          exact look_iff.2 ⟨q, b, q1, q2, fun hm => by have := hwait b hm; rw [q3] at this; cases this⟩
    have hop := step_op hcv hst
    obtain ⟨Ha, ga1, ga2, ga3, ga4⟩ := opE_ext hsub hop
    obtain ⟨Hb, gb1, gb2, gb3, gb4⟩ := opE_ext (look_sub : Sub (lookH E.T ops H.length o (st i).H) (st i).H) hop
    rw [gb1] at h2
    injection h2 with h2
    injection h2 with _ h2
    injection h2 with h2 _
    have hmask : Ha = maskE (st (i + 1)).H (unb (bornBefore E.T ops ops.size) H.length listed) := by
      apply List.ext_getElem?
      intro x
      rw [maskE_get]
      by_cases hx : x < (st i).H.length ∧ x ∉ W
      · rw [ga3 x (by rw [maskE_length, ← hHi ha]; exact hx.1) hx.2, maskE_get, ← h2, gb3 x hx.1 hx.2, hHi ha]
      · have hx' : (st i).H.length ≤ x ∨ x ∈ W := by
          by_cases hm : x ∈ W
          · exact .inr hm
          · left
            refine Nat.le_of_not_lt fun hlt => hx ⟨hlt, hm⟩
        rw [ga4 x (by rw [maskE_length, ← hHi ha]; exact hx'), ← h2, gb4 x hx']
        have hu : unb (bornBefore E.T ops ops.size) H.length listed x = false := by
          rw [Bool.eq_false_iff]
          intro hu
          obtain ⟨q, b, q1, q2, q3⟩ := unb_iff.1 hu
          rcases hx' with hx' | hx'
          · have := heaps_grow hcG hk i (by omega)
            have := (List.getElem?_eq_some_iff.1 q1).1
            omega
          · have hd := hWd x hx'
            unfold deadAt at hd
            rw [look_some (fun e => by rw [e] at q1; cases q1), maskE_get, look_iff.2 ⟨q, b, q1, q2, fun hm => by have := hwait b hm; rw [q3] at this; cases this⟩] at hd
            cases hh : (st i).H[x]? with
            | none => rw [hh] at hd; cases hd
            | some y => rw [hh] at hd; simp at hd
        rw [hu]
        cases H2[x]? <;> simp
    refine op_ok' hT h.ok.rel hopd ga1 fun Fr2 β2 w2 val hok2 hval => ?_
    exact hnext (i + 1) Fr2 β2 w2 _ _ (h.next hc ho hwait (by omega) (hact1 ha) (by rw [unb_other hisl hb, ← hmask]; exact h.ok.trans hok2) (hnone0 β2 hok2.ext') (h.ar.step h.ok.rel hok2) hval)
  | passive hb hw ha H2 hst hlen hH hW =>
    have hw' := wantE_mono hsame hw
    simp only [want_ok h.ar hw', if_true]
    left
    have hpart : Part (passH E.T ops H.length (H ++ bornCells E.T ops) Wl i) (maskE (st p).H (unb (bornBefore E.T ops ops.size) H.length listed)) := by
      intro x y hx hn
      unfold passH at hx
      rw [maskE_get] at hx
      have hxy : (decide (H.length ≤ x) || (!early E.T ops i && Wl.contains x)) = false ∧ (H ++ bornCells E.T ops)[x]? = some y := by
        cases hh : (H ++ bornCells E.T ops)[x]? with
        | none => rw [hh] at hx; cases hx
        | some z =>
          rw [hh] at hx
          simp only [Option.map_some, Option.some.injEq] at hx
          split at hx
          · exact absurd hx.symm hn
          · rename_i hd
            exact ⟨by simpa using hd, by rw [hx]⟩
      obtain ⟨hd, hxy⟩ := hxy
      simp only [Bool.or_eq_false_iff, decide_eq_false_iff_not, Bool.and_eq_false_iff, Bool.not_eq_false', List.contains_eq_mem] at hd
      have hsame0 : (st p).H[x]? = (st 0).H[x]? := by
        rcases hd.2 with he | hnw
        · rw [heaps_calls hk p h.hp]
          intro j oj hj hoj
          cases hja : isActive oj.op with
          | false => exact .inl rfl
          | true =>
            right
            unfold early at he
            rw [List.all_eq_true] at he
            have hjs : j < ops.size := (Array.getElem?_eq_some_iff.1 hoj).1
            have := he j (List.mem_range.2 hjs)
            rw [hoj] at this
            simp only [hja, Bool.not_true, Bool.false_or, Bool.or_eq_true, Bool.and_eq_true, Bool.not_eq_true', List.contains_eq_mem, decide_eq_true_eq] at this
            rcases this with ⟨h1, h2⟩ | this
            · exact ⟨h1, fun e => by rw [e] at h2; cases h2⟩
            · exfalso
              have := h.cl j ((h.act j (by unfold activeAt; rw [hoj]; exact hja)).2 hj) i (by unfold waitsAt; rw [hoj]; exact this)
              rw [hun] at this
              cases this
        · have h1 := (heaps_W hcG hk p 0 (by have := h.hp; omega)).2 x (by rw [hlen0]; omega)
          rw [Nat.zero_add] at h1
          refine h1 fun hm => hnw ?_
          have h2 := (heaps_W hcG hk (ops.size - p) p (by have := h.hp; omega)).1 x hm
          rw [show p + (ops.size - p) = ops.size by have := h.hp; omega] at h2
          exact hWl x h2
      rw [maskE_get, hsame0, h0, hxy]
      have hu : unb (bornBefore E.T ops ops.size) H.length listed x = false := by
        rw [Bool.eq_false_iff]
        intro hu
        obtain ⟨q, b, q1, q2, q3⟩ := unb_iff.1 hu
        omega
      simp [hu]
    have hlenp : H2.length = (passH E.T ops H.length (H ++ bornCells E.T ops) Wl i).length := by
      rw [hlen]
      simp [passH, maskE]
    have hq := opE_quiet hpart hst hlenp
    refine op_ok' hT h.ok.rel hopd hq fun Fr2 β2 w2 val hok2 hval => ?_
    exact hnext p Fr2 β2 w2 _ _ (h.next hc ho hwait h.hp (hact0 ha) (by rw [unb_other hisl hb]; exact h.ok.trans hok2) (hnone0 β2 hok2.ext') (h.ar.step h.ok.rel hok2) hval)

theorem drawStep_grw (hcG : CfGrw cf) {base : Nat} {H1 : Heap} {i : Nat} {o : Oper} {s s' : DS} (h : drawStep E cf ops base H1 Wl i o s = some s') : ∃ W, s'.W = s.W ++ W ∧ Grw s.H s'.H W := by
  obtain ⟨v, _, hk⟩ := drawStep_spec h
  exact hk.grw hcG
theorem drawRun_grw (hcG : CfGrw cf) {base : Nat} {H1 : Heap} : ∀ (l : List Nat) (s s' : DS), drawRun E cf ops base H1 Wl l s = some s' → ∃ W, s'.W = s.W ++ W ∧ Grw s.H s'.H W
  | [], s, s', h => by
    simp only [drawRun] at h
    injection h with h
    subst h
    exact ⟨[], by simp, .refl⟩
  | i :: l, s, s', h => by
    simp only [drawRun] at h
    split at h
    · cases h
    · split at h
      · rename_i s1 h1
        obtain ⟨W1, e1, g1⟩ := drawStep_grw hcG h1
        obtain ⟨W2, e2, g2⟩ := drawRun_grw hcG l s1 s' h
        exact ⟨W1 ++ W2, by rw [e2, e1, List.append_assoc], g1.trans g2⟩
      · cases h
theorem draw2E_grw (E : EP) {cf : CallF} (hcG : CfGrw cf) : DfGrw (draw2E E cf) := fun ops env H env' H' W h => by
  unfold draw2E at h
  split at h
  · split at h
    · split at h
      · rename_i s hs
        split at h
        · injection h with h; injection h with h1 h; injection h with h2 h3
          obtain ⟨W1, e1, g1⟩ := drawRun_grw hcG _ _ _ hs
          subst h2; subst h3
          rw [e1]
          exact (show Grw H (H ++ bornCells E.T ops) [] from ⟨by simp, fun o ho _ => List.getElem?_append_left ho⟩).trans g1
        · cases h
      · cases h
    · cases h
  · cases h
end
end Go.Ev
end

/- The evaluator E: regions that draw their order and write: soundness. -/
section
namespace Go.Ev
open Go
set_option linter.unusedSimpArgs false
set_option linter.unusedVariables false

section
variable {P : Program} {E : EP} {cf : CallF} {ds : List Deferred}

theorem draw2_ok' (hmix : P.follows .mixedOrders = true) (hT : E.T = tiOf P) (hcG : CfGrw cf) (hcall : CallOk P E.G cf) {ops : Array Oper} {env : Env} {H : Heap} {Wl : List Nat} {s' : DS} (hc : calm ops = true) (hl : lined ops = true)
    (hs : drawRun E cf ops H.length (H ++ bornCells E.T ops) Wl (List.range ops.size) ⟨env, H ++ bornCells E.T ops, []⟩ = some s') (hW : ∀ x ∈ s'.W, x ∈ Wl) {id : Nat} {env' : Env} {H' : Heap} {W : List Nat} (h : some (s'.env, s'.H, s'.W) = some (env', H', W))
    (Fr : Nat → Nat → Prop) (β : Bt) (w : World) (a : Act) (Q : Exit → Act → World → Prop) (hr : Rel Fr β H w) (hg : GOk E.G Fr w β) (ha : AR ds Fr w β env a) (hq : ∀ Fr' β' w' a', Ok Fr β H w Fr' β' H' w' → AR ds Fr' w' β' env' a' → Q Exit.normal a' w') : (Code.region id ops true).wp P Q a w := by
  injection h with h; injection h with h1 h; injection h with h2 h3
  subst h1; subst h2
  obtain ⟨st, vals, g1, g2, g3, g4⟩ := run_vals hc hs
  have h0 : (st 0).H = H ++ bornCells E.T ops := by rw [g1]
  have hall := g3 ops.size (Nat.le_refl _)
  rw [g2] at hall
  refine wp_region_any hmix ?_
  have key : ∀ (n : Nat) (listed : Array Bool) (p : Nat) (Fr' : Nat → Nat → Prop) (β' : Bt) (w' : World) (a' : Act) (e : Env), ((List.range ops.size).filter fun i => !listed.getD i true).length = n →
      Inv ds ops st vals (bornBefore E.T ops ops.size) H.length env Fr β H w listed p Fr' β' w' a' e → wpAny P .any ops Q n listed a' w' := by
    have fin : ∀ (listed : Array Bool) (p : Nat) (Fr' : Nat → Nat → Prop) (β' : Bt) (w' : World) (a' : Act) (e : Env), Inv ds ops st vals (bornBefore E.T ops ops.size) H.length env Fr β H w listed p Fr' β' w' a' e → (∀ i, i < ops.size → listed.getD i false = true) → Q .normal a' w' := by
      intro listed p Fr' β' w' a' e hI hfull
      have he : e = s'.env := by
        apply List.ext_getElem?
        intro t
        by_cases hlt : t < env.length
        · by_cases hx : ∃ j, dstOf ops j = some t
          · obtain ⟨j, hj⟩ := hx
            have hjs : j < ops.size := by
              unfold dstOf at hj
              cases hx : ops[j]? with
              | none => rw [hx] at hj; cases hj
              | some x => exact (Array.getElem?_eq_some_iff.1 hx).1
            rw [hI.made.2.1 j t (hfull j hjs) hj hlt, hall.2.1 j t hjs hj hlt]
          · rw [hI.made.2.2 t (fun j _ hj => hx ⟨j, hj⟩), hall.2.2 t (fun j _ hj => hx ⟨j, hj⟩)]
        · rw [List.getElem?_eq_none (by rw [hI.made.1]; omega), List.getElem?_eq_none (by rw [hall.1]; omega)]
      have hp := hI.hp
      have h1 := heaps_same g4 (ops.size - p) p (by omega) (fun j h1 h2 => by
        cases hja : activeAt ops j with
        | false => rfl
        | true => have := (hI.act j hja).1 (hfull j (by omega)); omega)
      rw [show p + (ops.size - p) = ops.size by omega, g2] at h1
      have hH : maskE (st p).H (unb (bornBefore E.T ops ops.size) H.length listed) = s'.H := by
        rw [h1]
        apply List.ext_getElem?
        intro x
        rw [maskE_get]
        have hu : unb (bornBefore E.T ops ops.size) H.length listed x = false := by
          rw [Bool.eq_false_iff]
          intro hu
          obtain ⟨q, b, q1, q2, q3⟩ := unb_iff.1 hu
          rw [hfull b (bb_mem q1).1] at q3
          cases q3
        rw [hu]
        cases (st p).H[x]? <;> simp
      have hok := hI.ok
      rw [hH] at hok
      exact hq _ _ _ _ hok (he ▸ hI.ar)
    intro n
    induction n with
    | zero =>
      intro listed p Fr' β' w' a' e hn hI
      have hnil : Region.ready .any ops listed = [] := by
        rw [List.eq_nil_iff_forall_not_mem]
        intro i hi
        obtain ⟨o, ho, h1, _⟩ := ready_mem hi
        have : i ∈ (List.range ops.size).filter fun i => !listed.getD i true := List.mem_filter.2 ⟨List.mem_range.2 (Array.getElem?_eq_some_iff.1 ho).1, by simp [h1]⟩
        rw [List.length_eq_zero_iff.1 hn] at this
        cases this
      exact ⟨hnil, fin _ _ _ _ _ _ _ hI (ready_some hc hI.size hnil)⟩
    | succ n ih =>
      intro listed p Fr' β' w' a' e hn hI
      refine ⟨fun hnil => fin _ _ _ _ _ _ _ hI (ready_some hc hI.size hnil), fun i hi => ?_⟩
      refine hI.step hc hl (fun x hx => hW x (by rw [← g2]; exact hx)) hT hcG hcall hr hg h0 g3 g4 hi fun p' Fr2 β2 w2 a2 e2 hI2 => ih _ _ _ _ _ _ _ ?_ hI2
      obtain ⟨o, ho, hli, hwait⟩ := ready_mem hi
      have his : i < ops.size := (Array.getElem?_eq_some_iff.1 ho).1
      have := filter_less (p := fun j => !listed.getD j true) (p' := fun j => !(listed.setIfInBounds i true).getD j true) (i := i) (by simp [hli]) (by simp [Array.getD_eq_getD_getElem?, hI.size, his]) (fun j hj => by simp [Array.getD_eq_getD_getElem?, Array.getElem?_setIfInBounds_ne (fun e' => hj e'.symm)]) (List.range ops.size) List.nodup_range (List.mem_range.2 his)
      omega
  have hd0 := Ok.drew hr (w.drawn + 1)
  have hd1 := hd0.trans (Ok.pad hd0.rel (bornBefore E.T ops ops.size).length)
  have hrep : ∀ i, (Array.replicate ops.size false).getD i false = false := fun i => by
    simp [Array.getD_eq_getD_getElem?, Array.getElem?_replicate]
    split <;> rfl
  refine key ops.size _ 0 Fr _ _ a env ?_ ⟨by simp, Nat.zero_le _, fun j hj => by rw [hrep]; simp, ?_, fun q b h1 h2 => ?_, ha.step hr hd1, ⟨rfl, fun j t hj => ?_, fun _ _ => rfl⟩, fun j hj => ?_⟩
  · rw [List.filter_eq_self.2]
    · simp
    · intro i hi
      have := List.mem_range.1 hi
      simp [Array.getD_eq_getD_getElem?, this]
  · have : maskE (st 0).H (unb (bornBefore E.T ops ops.size) H.length (Array.replicate ops.size false)) = H ++ List.replicate (bornBefore E.T ops ops.size).length .dead := by
      apply List.ext_getElem?
      intro x
      rw [maskE_get, h0]
      by_cases hx : x < H.length
      · rw [List.getElem?_append_left hx, List.getElem?_append_left hx]
        have hu : unb (bornBefore E.T ops ops.size) H.length (Array.replicate ops.size false) x = false := by
          rw [Bool.eq_false_iff]
          intro hu
          obtain ⟨q, b, q1, q2, q3⟩ := unb_iff.1 hu
          omega
        rw [hu]
        cases H[x]? <;> simp
      · rw [List.getElem?_append_right (by omega), List.getElem?_append_right (by omega), List.getElem?_replicate]
        by_cases hb : x - H.length < (bornBefore E.T ops ops.size).length
        · rw [if_pos hb, List.getElem?_eq_getElem (by rw [bornCells_length]; exact hb)]
          rw [unb_iff.2 ⟨x - H.length, _, List.getElem?_eq_getElem hb, by omega, hrep _⟩]
          simp
        · rw [if_neg hb, List.getElem?_eq_none (by rw [bornCells_length]; omega)]
          rfl
    rw [this]
    exact hd1
  · rw [List.getElem?_append_right (by rw [hr.len]; omega), hr.len, Nat.add_sub_cancel_left, List.getElem?_replicate, if_pos (List.getElem?_eq_some_iff.1 h1).1]
  · have hj' : (Array.replicate ops.size false).getD j false = true := hj
    rw [hrep] at hj'
    cases hj'
  · rw [hrep] at hj
    cases hj

theorem draw2_ok (hmix : P.follows .mixedOrders = true) (hT : E.T = tiOf P) (hcG : CfGrw cf) (hcall : CallOk P E.G cf) : DrawOk P E.G (draw2E E cf) := by
  intro ops env H env' H' W h ds id Fr β w a Q hr hg ha hq
  unfold draw2E at h
  split at h
  · rename_i hcl
    obtain ⟨hc, hl⟩ := hcl
    split at h
    · rename_i s0 hs0
      split at h
      · rename_i s' hs
        split at h
        · rename_i hall
          exact draw2_ok' hmix hT hcG hcall hc hl hs (fun x hx => by simpa using List.all_eq_true.1 hall x hx) h Fr β w a Q hr hg ha hq
        · cases h
      · cases h
    · cases h
  · cases h
end
end Go.Ev
end

/- The evaluator E: reasoning about regions that draw; the whole: a program's evaluator, and what it says of the program. -/
section
namespace Go.Ev
open Go
set_option linter.unusedSimpArgs false
set_option linter.unusedVariables false

/-- Does such a region write? -/
def wrt (ops : Array Oper) : Bool := ops.toList.any fun o => (isActive o.op && !isCallV o.op) || match o.op with
  | .alloc _ => true
  | _ => false
/-- A call that writes nothing of what was there: what it hands back stays as it is, what it made is no more known. -/
def quietCf (cf : CallF) : CallF := fun f args H => match cf f args H with
  | some (v, H1, []) => some (finishE 0 H H1 [] v)
  | r => r
def cfB (T : TT) (ops : Array Oper) (cf : CallF) : CallF := if bornBefore T ops ops.size = [] then cf else quietCf cf
theorem quietCf_grw {cf : CallF} (h : CfGrw cf) : CfGrw (quietCf cf) := fun f args H v H' W hc => by
  unfold quietCf at hc
  split at hc
  · rename_i v1 H1 h1
    injection hc with hc
    have e1 := congrArg (·.1) hc
    have e2 := congrArg (·.2.1) hc
    have e3 := congrArg (·.2.2) hc
    dsimp only at e1 e2 e3
    exact finishE_grw (h f args H v1 H1 [] h1) (show finishE 0 H H1 [] v1 = (v, H', W) by rw [← hc])
  · exact h f args H v H' W hc
theorem cfB_grw {T : TT} {ops : Array Oper} {cf : CallF} (h : CfGrw cf) : CfGrw (cfB T ops cf) := by
  unfold cfB
  split
  · exact h
  · exact quietCf_grw h
theorem quietCf_ok {P : Program} {G : Nat → Option EV} {cf : CallF} (hg : CfGrw cf) (h : CallOk P G cf) : CallOk P G (quietCf cf) := fun f args H v H' W hc Fr β w vals hr hG hv => by
  unfold quietCf at hc
  split at hc
  · rename_i v1 H1 h1
    injection hc with hc
    have hfin : finishE 0 H H1 [] v1 = (v, H', W) := by rw [← hc]
    have hgr := hg f args H v1 H1 [] h1
    have key : ∀ e w', Rets Fr β H w v1 H1 e w' → Rets Fr β H w v H' e w' := by
      rintro e w' ⟨val, Fr1, β1, he, hok, hvr⟩
      obtain ⟨Fr', β', k1, k2⟩ := finishE_ok hr hok hgr hvr hfin
      exact ⟨val, Fr', β', he, k1, k2⟩
    rcases h f args H v1 H1 [] h1 Fr β w vals hr hG hv with ⟨h2, h3⟩ | ⟨val, w', h2, h3⟩
    · exact .inl ⟨h2, h3.mono key⟩
    · exact .inr ⟨val, w', h2, key _ _ h3⟩
  · exact h f args H v H' W hc Fr β w vals hr hG hv
theorem cfB_ok {P : Program} {G : Nat → Option EV} {T : TT} {ops : Array Oper} {cf : CallF} (hg : CfGrw cf) (h : CallOk P G cf) : CallOk P G (cfB T ops cf) := by
  unfold cfB
  split
  · exact h
  · exact quietCf_ok hg h
theorem quiet_step {E : EP} {cf : CallF} {l : Look} {H : Heap} {op : Op} {v : EV} {H1 : Heap} (hcv : isCallV op = true) (h : stepE E cf l H op = some (v, H1, [])) : stepE E (quietCf cf) l H op = some (finishE 0 H H1 [] v) := by
  unfold isCallV at hcv
  split at hcv
  · simp only [stepE] at h ⊢
    split at h
    · rename_i hf has
      simp only [quietCf, h]
    · cases h
  · cases hcv
theorem other_step {E : EP} {cf cf' : CallF} {l : Look} {H : Heap} {op : Op} (hcv : isCallV op = false) : stepE E cf l H op = stepE E cf' l H op := by
  unfold stepE
  split
  · simp [isCallV] at hcv
  · rfl
def dQ : EP → CallF → DrawF := fun E cf ops env H => if wrt ops = true then draw2E E (cfB E.T ops cf) ops env H else drawE E cf ops env H
def restrM (ts : List Nat) (M : Mm) : Look := fun t => if t ∈ ts then M.lookup t else none

def quietW (E : EP) (D : EP → CallF → DrawF) (vm : Bool) (N : Nat) (ops : Array Oper) (H : Heap) : List Nat → Mm → (Mm → Prop) → Prop
  | [], M, K => K M
  | i :: rest, M, K => match ops[i]? with
    | none => False
    | some o => dstOk N o.dst = true ∧ match wantE ops (restrM (o.looksAt ops) M) o with
      | some true => stepW E D vm (restrM (o.looksAt ops) M) H o.op fun v H1 W1 => H1 = H ∧ W1 = [] ∧ quietW E D vm N ops H rest (putM M o.dst v) K
      | some false => quietW E D vm N ops H rest (putM M o.dst .undef) K
      | none => False

section
variable {E : EP} {D : EP → CallF → DrawF} {vm : Bool} {N : Nat} {M : Mm} {H : Heap} {K : EX → Mm → Heap → List Nat → Prop}

theorem quietW_ok {ops : Array Oper} : ∀ (l : List Nat) (M : Mm) (K : Mm → Prop), quietW E D vm N ops H l M K → ∀ env : Env, env.length = N → Has M env →
    ∃ (env' : Env) (M' : Mm), (∃ n, ∀ m, n ≤ m → ∀ k, n ≤ k → quietE { E.at m with vm := vm } (cfAt E D m k) ops H l env = some env') ∧ env'.length = N ∧ Has M' env' ∧ K M'
  | [], M, K, h, env, hl, hh => ⟨env, M, ⟨0, fun _ _ _ _ => rfl⟩, hl, hh, h⟩
  | i :: rest, M, K, h, env, hl, hh => by
    simp only [quietW] at h
    split at h
    · exact h.elim
    · rename_i o ho
      obtain ⟨hd, h⟩ := h
      have hlk : ∀ t v, restrM (o.looksAt ops) M t = some v → restr (o.looksAt ops) env t = some v := fun t v h => by
        unfold restrM at h
        unfold restr
        split at h
        · rename_i ht
          rw [if_pos ht]
          exact hh t v h
        · cases h
      split at h
      · rename_i hw
        have hw' := wantE_mono hlk hw
        obtain ⟨v, H1, W1, ⟨n1, h1⟩, e1, e2, h2⟩ := stepW_ok hlk h
        rw [e1, e2] at h1
        obtain ⟨env', M', ⟨n2, h3⟩, h4, h5, h6⟩ := quietW_ok rest _ _ h2 (putE env o.dst v) (by rw [putE_length]; exact hl) (hh.put (by rw [hl]; exact hd))
        refine ⟨env', M', ⟨max n1 n2, fun m hm k hk => ?_⟩, h4, h5, h6⟩
        simp only [quietE, quiet1, ho, hw', h1 m (by omega) k (by omega), if_true, h3 m (by omega) k (by omega)]
      · rename_i hw
        have hw' := wantE_mono hlk hw
        obtain ⟨env', M', ⟨n2, h3⟩, h4, h5, h6⟩ := quietW_ok rest _ _ h (putE env o.dst .undef) (by rw [putE_length]; exact hl) (hh.put (by rw [hl]; exact hd))
        refine ⟨env', M', ⟨n2, fun m hm k hk => ?_⟩, h4, h5, h6⟩
        simp only [quietE, quiet1, ho, hw', h3 m (by omega) k (by omega)]
      · exact h.elim

/-- A region that draws its order. The function that goes through such a region knows E but for 'vm': no operation that is quiet asks it. -/
theorem CodeM.draw {id : Nat} {ops : Array Oper} (hc : (calm ops && !wrt ops) = true) (h : quietW E dQ E.vm N ops H (List.range ops.size) M fun M' => K .normal M' H []) : CodeM E dQ vm N (.region id ops true) M H K := by
  rw [Bool.and_eq_true, Bool.not_eq_true'] at hc
  obtain ⟨hc, hwr⟩ := hc
  intro env hl hh
  obtain ⟨env', M', ⟨n, h1⟩, h2, h3, h4⟩ := quietW_ok _ _ _ h env hl hh
  refine ⟨.normal, env', H, [], M', ⟨n, fun m hm k hk => ?_⟩, h2, h3, h4⟩
  have e1 := h1 m hm k hk
  have e2 : ({ E.at m with vm := E.vm } : EP) = E.at m := rfl
  rw [e2] at e1
  simp only [cdAt, codeE, dQ, hwr, Bool.false_eq_true, if_false, drawE, hc, if_true, e1]
end

/-- A region that draws its order and writes. -/
def draw2W (E : EP) (D : EP → CallF → DrawF) (N : Nat) (ops : Array Oper) (base : Nat) (H1 : Heap) (Wl : List Nat) : List Nat → Mm → Heap → List Nat → (Mm → Heap → List Nat → Prop) → Prop
  | [], M, Hc, W, K => K M Hc W
  | i :: rest, M, Hc, W, K => match ops[i]? with
    | none => False
    | some o => dstOk N o.dst = true ∧ match birthAt E.T ops i with
      | some _ => draw2W E D N ops base H1 Wl rest (putM M o.dst (.ptr (base + (bornBefore E.T ops i).length) 0)) Hc W K
      | none => match wantE ops (restrM (o.looksAt ops) M) o with
        | some false => draw2W E D N ops base H1 Wl rest (putM M o.dst .undef) Hc W K
        | some true => if isActive o.op = true then
            if isCallV o.op = true then stepW E D E.vm (restrM (o.looksAt ops) M) (lookH E.T ops base o Hc) o.op fun v H' W' => if bornBefore E.T ops ops.size = [] then draw2W E D N ops base H1 Wl rest (putM M o.dst v) H' (W ++ W') K else W' = [] ∧ (finishE 0 (lookH E.T ops base o Hc) H' [] v).2.2 = [] ∧ (finishE 0 (lookH E.T ops base o Hc) H' [] v).2.1.length = (lookH E.T ops base o Hc).length ∧ draw2W E D N ops base H1 Wl rest (putM M o.dst (finishE 0 (lookH E.T ops base o Hc) H' [] v).1) Hc W K
            else match opE E (restrM (o.looksAt ops) M) (lookH E.T ops base o Hc) o.op with
              | some (v, _, W') => (W'.all fun p => !deadAt (lookH E.T ops base o Hc) p) = true ∧ match opE E (restrM (o.looksAt ops) M) Hc o.op with
                | some (_, H2, _) => draw2W E D N ops base H1 Wl rest (putM M o.dst v) H2 (W ++ W') K
                | none => False
              | none => False
          else match opE E (restrM (o.looksAt ops) M) (passH E.T ops base H1 Wl i) o.op with
            | some (v, H', W') => W' = [] ∧ H'.length = H1.length ∧ draw2W E D N ops base H1 Wl rest (putM M o.dst v) Hc W K
            | none => False
        | none => False

section
variable {E : EP} {D : EP → CallF → DrawF} {vm : Bool} {N : Nat} {M : Mm} {H H1 : Heap} {K : EX → Mm → Heap → List Nat → Prop} {base : Nat} {Wl : List Nat}

theorem draw2W_ok {ops : Array Oper} : ∀ (l : List Nat) (M : Mm) (Hc : Heap) (W : List Nat) (K : Mm → Heap → List Nat → Prop), draw2W E D N ops base H1 Wl l M Hc W K → ∀ env : Env, env.length = N → Has M env →
    ∃ (s' : DS) (M' : Mm), (∃ n, ∀ m, n ≤ m → ∀ k, n ≤ k → drawRun (E.at m) (cfB (E.at m).T ops (cfAt E D m k)) ops base H1 Wl l ⟨env, Hc, W⟩ = some s') ∧ s'.env.length = N ∧ Has M' s'.env ∧ K M' s'.H s'.W
  | [], M, Hc, W, K, h, env, hl, hh => ⟨⟨env, Hc, W⟩, M, ⟨0, fun _ _ _ _ => rfl⟩, hl, hh, h⟩
  | i :: rest, M, Hc, W, K, h, env, hl, hh => by
    simp only [draw2W] at h
    split at h
    · exact h.elim
    · rename_i o ho
      obtain ⟨hd, h⟩ := h
      have hlk : ∀ t v, restrM (o.looksAt ops) M t = some v → restr (o.looksAt ops) env t = some v := fun t v h => by
        unfold restrM at h
        unfold restr
        split at h
        · rename_i ht
          rw [if_pos ht]
          exact hh t v h
        · cases h
      have next : ∀ (v : EV) (Hn : Heap) (Wn : List Nat), draw2W E D N ops base H1 Wl rest (putM M o.dst v) Hn Wn K → (∃ n, ∀ m, n ≤ m → ∀ k, n ≤ k → drawStep (E.at m) (cfB (E.at m).T ops (cfAt E D m k)) ops base H1 Wl i o ⟨env, Hc, W⟩ = some ⟨putE env o.dst v, Hn, Wn⟩) →
          ∃ (s' : DS) (M' : Mm), (∃ n, ∀ m, n ≤ m → ∀ k, n ≤ k → drawRun (E.at m) (cfB (E.at m).T ops (cfAt E D m k)) ops base H1 Wl (i :: rest) ⟨env, Hc, W⟩ = some s') ∧ s'.env.length = N ∧ Has M' s'.env ∧ K M' s'.H s'.W := by
        rintro v Hn Wn h2 ⟨n1, h1⟩
        obtain ⟨s', M', ⟨n2, h3⟩, h4, h5, h6⟩ := draw2W_ok rest _ _ _ _ h2 (putE env o.dst v) (by rw [putE_length]; exact hl) (hh.put (by rw [hl]; exact hd))
        refine ⟨s', M', ⟨max n1 n2, fun m hm k hk => ?_⟩, h4, h5, h6⟩
        simp only [drawRun, ho, h1 m (by omega) k (by omega)]
        exact h3 m (by omega) k (by omega)
      split at h
      · rename_i cs hb
        refine next _ _ _ h ⟨0, fun m _ k _ => ?_⟩
        have hb' : birthAt (E.at m).T ops i = some cs := hb
        unfold drawStep
        rw [hb']
        rfl
      · rename_i hb
        have hb' : ∀ m, birthAt (E.at m).T ops i = none := fun _ => hb
        split at h
        · rename_i hw
          have hw' := wantE_mono hlk hw
          refine next _ _ _ h ⟨0, fun m _ k _ => ?_⟩
          unfold drawStep
          rw [hb' m]
          simp only [hw']
        · rename_i hw
          have hw' := wantE_mono hlk hw
          split at h
          · rename_i ha
            split at h
            · rename_i hcv
              obtain ⟨v, H2, W2, ⟨n1, h1⟩, h2⟩ := stepW_ok hlk h
              have h1' : ∀ m, n1 ≤ m → ∀ k, n1 ≤ k → stepE (E.at m) (cfAt E D m k) (restr (o.looksAt ops) env) (lookH (E.at m).T ops base o Hc) o.op = some (v, H2, W2) := h1
              split at h2
              · rename_i hbn
                refine next _ _ _ h2 ⟨n1, fun m hm k hk => ?_⟩
                have hbn' : bornBefore (E.at m).T ops ops.size = [] := hbn
                have hcf : cfB (E.at m).T ops (cfAt E D m k) = cfAt E D m k := by unfold cfB; rw [if_pos hbn']
                unfold drawStep
                rw [hb' m, hcf]
                simp only [hw', ha, if_true, h1' m hm k hk, hcv]
                rw [if_pos hbn']
              · rename_i hbn
                obtain ⟨e1, e3, e2, h2⟩ := h2
                refine next _ _ _ h2 ⟨n1, fun m hm k hk => ?_⟩
                have hbn' : ¬ bornBefore (E.at m).T ops ops.size = [] := hbn
                have hcf : cfB (E.at m).T ops (cfAt E D m k) = quietCf (cfAt E D m k) := by unfold cfB; rw [if_neg hbn']
                have h1'' := h1' m hm k hk
                rw [e1] at h1''
                have h3 := quiet_step hcv h1''
                have e2' : (finishE 0 (lookH (E.at m).T ops base o Hc) H2 [] v).2.1.length = (lookH (E.at m).T ops base o Hc).length := e2
                have e3' : (finishE 0 (lookH (E.at m).T ops base o Hc) H2 [] v).2.2 = [] := e3
                rw [show finishE 0 (lookH (E.at m).T ops base o Hc) H2 [] v = ((finishE 0 (lookH (E.at m).T ops base o Hc) H2 [] v).1, (finishE 0 (lookH (E.at m).T ops base o Hc) H2 [] v).2.1, (finishE 0 (lookH (E.at m).T ops base o Hc) H2 [] v).2.2) from rfl] at h3
                unfold drawStep
                rw [hb' m, hcf]
                simp only [hw', ha, if_true, h3, hcv]
                rw [if_neg hbn', if_pos ⟨e3', e2'⟩]
                rfl
            · rename_i hcv
              split at h
              · rename_i v H2 W2 hop
                obtain ⟨hWd, h⟩ := h
                split at h
                · rename_i v2 H3 W3 hop2
                  refine next _ _ _ h ⟨0, fun m _ k _ => ?_⟩
                  have hop' : stepE (E.at m) (cfB (E.at m).T ops (cfAt E D m k)) (restr (o.looksAt ops) env) (lookH (E.at m).T ops base o Hc) o.op = some (v, H2, W2) := by
                    have e1 : opE (E.at m) (restr (o.looksAt ops) env) (lookH E.T ops base o Hc) o.op = some (v, H2, W2) := opE_mono hlk hop
                    unfold stepE
                    split
                    · rename_i f as ts hop3
                      rw [hop3] at hcv
                      exact absurd rfl hcv
                    · exact e1
                  have hop2' : opE (E.at m) (restr (o.looksAt ops) env) Hc o.op = some (v2, H3, W3) := opE_mono hlk hop2
                  unfold drawStep
                  rw [hb' m]
                  simp only [hw', ha, if_true]
                  rw [hop']
                  simp only [hcv, Bool.false_eq_true, if_false]
                  have hWd' : (W2.all fun p => !deadAt (lookH (E.at m).T ops base o Hc) p) = true := hWd
                  rw [if_pos hWd', hop2']
                · exact h.elim
              · exact h.elim
          · rename_i ha
            split at h
            · rename_i v H2 W2 hop
              obtain ⟨e1, e2, h⟩ := h
              refine next _ _ _ h ⟨0, fun m _ k _ => ?_⟩
              have hop' : opE (E.at m) (restr (o.looksAt ops) env) (passH (E.at m).T ops base H1 Wl i) o.op = some (v, H2, W2) := opE_mono hlk hop
              unfold drawStep
              rw [hb' m]
              simp only [hw', ha, Bool.false_eq_true, if_false]
              rw [hop']
              simp only
              rw [if_pos ⟨e1, e2⟩]
            · exact h.elim
        · exact h.elim

theorem pass_sub {T : TT} {ops : Array Oper} {Wl' : List Nat} (hs : ∀ x ∈ Wl', x ∈ Wl) (i : Nat) : Sub (passH T ops base H1 Wl i) (passH T ops base H1 Wl' i) := mask_sub fun o h => by
  simp only [Bool.or_eq_true, decide_eq_true_eq, Bool.and_eq_true, List.contains_eq_mem] at h ⊢
  rcases h with h | ⟨h1, h2⟩
  · exact .inl h
  · exact .inr ⟨h1, hs _ h2⟩
theorem drawStep_mono {cf : CallF} {ops : Array Oper} {Wl' : List Nat} (hs : ∀ x ∈ Wl', x ∈ Wl) {i : Nat} {o : Oper} {s s' : DS} (h : drawStep E cf ops base H1 Wl i o s = some s') : drawStep E cf ops base H1 Wl' i o s = some s' := by
  unfold drawStep at h ⊢
  cases hb : birthAt E.T ops i with
  | some cs => simp only [hb] at h ⊢; exact h
  | none =>
    simp only [hb] at h ⊢
    cases hw : wantE ops (restr (o.looksAt ops) s.env) o with
    | none => simp only [hw] at h; cases h
    | some b =>
      simp only [hw] at h ⊢
      cases b with
      | false => exact h
      | true =>
        by_cases ha : isActive o.op = true
        · simp only [ha, if_true] at h ⊢
          exact h
        · simp only [ha, Bool.false_eq_true, if_false] at h ⊢
          split at h
          · rename_i v H' W hop
            split at h
            · rename_i hq
              obtain ⟨rfl, hl⟩ := hq
              have := opE_quiet (pass_sub hs i).2 hop (by rw [hl]; simp [passH, maskE])
              rw [this]
              simp only
              rw [if_pos ⟨trivial, by simp [passH, maskE]⟩]
              exact h
            · cases h
          · cases h
theorem drawRun_mono {cf : CallF} {ops : Array Oper} {Wl' : List Nat} (hs : ∀ x ∈ Wl', x ∈ Wl) : ∀ (l : List Nat) (s s' : DS), drawRun E cf ops base H1 Wl l s = some s' → drawRun E cf ops base H1 Wl' l s = some s'
  | [], s, s', h => h
  | i :: l, s, s', h => by
    simp only [drawRun] at h ⊢
    split at h
    · cases h
    · rename_i o ho
      split at h
      · rename_i s1 h1
        simp only [drawStep_mono hs h1]
        exact drawRun_mono hs l s1 s' h
      · cases h

theorem CodeM.draw2 {id : Nat} {ops : Array Oper} (hc : (calm ops && lined ops && wrt ops) = true) (Wl : List Nat) (h : draw2W E dQ N ops H.length (H ++ bornCells E.T ops) Wl (List.range ops.size) M (H ++ bornCells E.T ops) [] fun M' H' W => (∀ x ∈ W, x ∈ Wl) ∧ K .normal M' H' W) : CodeM E dQ vm N (.region id ops true) M H K := by
  rw [Bool.and_eq_true, Bool.and_eq_true] at hc
  obtain ⟨⟨hc, hli⟩, hwr⟩ := hc
  intro env hl hh
  obtain ⟨s', M', ⟨n, h1⟩, h2, h3, hsub, h4⟩ := draw2W_ok _ _ _ _ _ h env hl hh
  refine ⟨.normal, s'.env, s'.H, s'.W, M', ⟨n, fun m hm k hk => ?_⟩, h2, h3, h4⟩
  have e1 : drawRun (E.at m) (cfB (E.at m).T ops (cfAt E dQ m k)) ops H.length (H ++ bornCells (E.at m).T ops) Wl (List.range ops.size) ⟨env, H ++ bornCells (E.at m).T ops, []⟩ = some s' := h1 m hm k hk
  have e2 : dQ (E.at m) (cfAt E dQ m k) ops env H = some (s'.env, s'.H, s'.W) := by
    have e0 : ∀ cf, dQ (E.at m) cf ops env H = draw2E (E.at m) (cfB (E.at m).T ops cf) ops env H := fun cf => by unfold dQ; rw [if_pos hwr]
    rw [e0]
    unfold draw2E
    rw [if_pos ⟨hc, hli⟩, drawRun_mono (fun _ h => by cases h) _ _ _ e1]
    simp only
    rw [drawRun_mono hsub _ _ _ e1]
    simp only
    rw [if_pos (by rw [List.all_eq_true]; intro x hx; simpa using hx)]
  simp only [cdAt, codeE, e2]
end

theorem dQ_grw (E : EP) {cf : CallF} (hcG : CfGrw cf) : DfGrw (dQ E cf) := fun ops env H env' H' W h => by
  unfold dQ at h
  split at h
  · exact draw2E_grw E (cfB_grw hcG) ops env H env' H' W h
  · exact drawE_grw E cf ops env H env' H' W h
theorem dQ_ok {P : Program} {E : EP} {cf : CallF} (hmix : P.follows .mixedOrders = true) (hT : E.T = tiOf P) (hcG : CfGrw cf) (hcall : CallOk P E.G cf) : DrawOk P E.G (dQ E cf) := fun ops env H env' H' W h => by
  unfold dQ at h
  split at h
  · exact draw2_ok hmix hT (cfB_grw hcG) (cfB_ok hcG hcall) ops env H env' H' W h
  · exact draw_ok hmix hT hcG hcall ops env H env' H' W h

/-- The evaluator of a program. -/
def epOf (P : Program) (G : Nat → Option EV) (I : Nat → List EV → Heap → Option (EV × Heap × List Nat)) (pol : Nat → Nat) (vms : Nat → Bool) : EP :=
  { T := tiOf P, G := G, F := fun f => match P.funcs[f]? with | some fn => if fn.name == "runtime.NumGoroutine" then none else some fn | none => none, I := I, pol := pol, vm := true, vms := vms, fuel := 0 }
section
variable {P : Program} {G : Nat → Option EV} {I : Nat → List EV → Heap → Option (EV × Heap × List Nat)} {pol : Nat → Nat} {vms : Nat → Bool}
theorem epOf_F {f : Nat} {fn : Func} (h : P.funcs[f]? = some fn) (hn : (fn.name == "runtime.NumGoroutine") = false) : (epOf P G I pol vms).F f = some fn := by
  simp only [epOf, h, hn, Bool.false_eq_true, if_false]

/-- What is asked of functions that are told by hand. -/
def TellsOk (P : Program) (G : Nat → Option EV) (I : Nat → List EV → Heap → Option (EV × Heap × List Nat)) : Prop :=
  CallOk P G I ∧ ∀ f args H v H' W, I f args H = some (v, H', W) → Grw H H' W

/-- What the evaluator says of a call is so. -/
theorem CallR.says (hmix : P.follows .mixedOrders = true) (hI : TellsOk P G I) {f : Nat} {args : List EV} {H H' : Heap} {v : EV} {W : List Nat} (h : CallR (epOf P G I pol vms) dQ f args H v H' W)
    {Fr : Nat → Nat → Prop} {β : Bt} {w : World} {vals : List Value} (hr : Rel Fr β H w) (hg : GOk G Fr w β) (hv : VRs Fr w β args vals) : Yields P f vals.toArray w (Rets Fr β H w v H') := by
  obtain ⟨n, hn⟩ := h
  have h1 := hn n (Nat.le_refl _) n (Nat.le_refl _)
  refine call_ok (E := (epOf P G I pol vms).at n) (D := dQ ((epOf P G I pol vms).at n)) rfl (fun f fn hf => ?_) hI.1 hI.2 (fun cf hcf => dQ_grw _ hcf) (fun cf hcf hok => dQ_ok hmix rfl hcf hok) n f args H v H' W h1 Fr β w vals hr hg hv
  have hf : (match P.funcs[f]? with | some fn => if fn.name == "runtime.NumGoroutine" then none else some fn | none => none) = some fn := hf
  split at hf
  · rename_i fn' hfn
    split at hf
    · cases hf
    · rename_i hne
      injection hf with hf
      subst hf
      exact ⟨hfn, by simpa using hne⟩
  · cases hf
end
end Go.Ev
end
