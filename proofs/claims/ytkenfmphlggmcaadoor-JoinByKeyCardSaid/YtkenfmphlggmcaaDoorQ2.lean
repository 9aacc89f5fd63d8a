/- The evaluator E: operations on values: fields, indices, slices, lengths. -/
import Derived.Test.YtkenfmphlggmcaaDoorQ1

section
namespace Go.Ev
open Go
set_option linter.unusedSimpArgs false
set_option linter.unusedVariables false

section
variable {P : Program} {Fr : Nat → Nat → Prop} {w : World} {β : Bt} {H : Heap}

theorem cut_all {α : Type} (l : List α) (n i : Nat) (h : i + n ≤ l.length) : ((l.drop i).take n).length = n := by simp; omega
theorem part_ok {t : Nat} {ag : Bool} {sz off : Nat} {cs : List EV} {vs : List Value} {v : EV} (ha : ∀ w, (isAgg t).run P w = .ok ag w) (hs : ∀ w, (sizeOf t).run P w = .ok sz w) (hv : VRs Fr w β cs vs)
    (h : partE ag sz cs off = some v) : ∃ val, (part t vs.toArray off).run P w = .ok val w ∧ VR Fr w β v val := by
  unfold partE at h
  split at h
  · rename_i hl
    unfold part
    simp only [Sem.run_bind, ha, Result.andThen_ok]
    split at h
    · rename_i hg
      injection h with h
      subst h
      simp only [hg, if_true, Sem.run_bind, hs, Result.andThen_ok, Sem.run_pure]
      refine ⟨_, rfl, ?_⟩
      have : vs.toArray.extract off (off + sz) = ((vs.drop off).take sz).toArray := by
        apply Array.ext'
        simp [List.extract_eq_take_drop]
      rw [this]
      exact .agg (hv.cut _ _)
    · rename_i hg
      split at h
      · rename_i c hc
        injection h with h
        subst h
        have h1 := hv.cut off sz
        rw [hc] at h1
        cases hq : (vs.drop off).take sz with
        | nil => rw [hq] at h1; cases h1
        | cons u r =>
          rw [hq] at h1
          cases h1 with
          | cons hu _ =>
            have h0 : vs[off]? = some u := by
              have : ((vs.drop off).take sz)[0]? = some u := by rw [hq]; rfl
              rw [List.getElem?_take] at this
              split at this
              · rw [List.getElem?_drop] at this
                simpa using this
              · cases this
            simp only [hg, Bool.false_eq_true, if_false, List.getElem?_toArray, h0, Sem.run_pure]
            exact ⟨u, rfl, hu⟩
      · cases h
  · cases h

theorem fieldAddr_ok {s f : Nat} {p v : EV} {pv : Value} (hp : VR Fr w β p pv) (h : fieldAddrE (tiOf P) s p f = some v) : ∃ val, (Instr.fieldAt s pv f).run P w = .ok val w ∧ VR Fr w β v val := by
  unfold fieldAddrE at h
  split at h
  · rename_i fs sz bytes ag zero eq ht
    obtain ⟨gs, hg, rfl, hsome⟩ := (tiOf_ok ht).struct
    split at h
    · rename_i fi hfi
      rw [List.getElem?_map] at hfi
      cases hgf : gs.toList[f]? with
      | none => rw [hgf] at hfi; cases hfi
      | some g =>
        rw [hgf] at hfi
        injection hfi with hfi
        have hga : gs[f]? = some g := by rw [← hgf]; simp
        have hgi := hsome g (List.mem_of_getElem? hgf)
        obtain ⟨i, hi⟩ := Option.isSome_iff_exists.1 hgi.1
        split at h
        · cases h
        · rename_i hne
          have hsz : (sizeOf g.type).run P w = .ok fi.sz w := by rw [run_sizeOf w hi, ← hfi]; rfl
          have hoff : fi.off = g.offset := by rw [← hfi]; rfl
          unfold Instr.fieldAt
          split at h
          · injection h with h
            subst h
            cases hp with
            | ptr hb =>
              simp only [Sem.run_bind, run_und hg, Result.andThen_ok, hga, Instr.sureAddr, Sem.run_pure, fieldPlace, hsz, if_neg hne, Sem.run_ite, addr_add]
              refine ⟨_, rfl, ?_⟩
              rw [hoff, Nat.add_assoc]
              exact .ptr hb
          · split at h
            · injection h with h
              subst h
              cases hp with
              | fp h1 h2 =>
                simp only [Sem.run_bind, run_und hg, Result.andThen_ok, hga, Instr.sureAddr, Sem.run_pure, fieldPlace, hsz, if_neg hne, Sem.run_ite, addr_add]
                refine ⟨_, rfl, ?_⟩
                rw [hoff]
                exact .fp (h1.drop _) (h2.drop _)
            · cases h
          · cases h
    · cases h
  · cases h

theorem field_ok {s f : Nat} {x v : EV} {xv : Value} (hx : VR Fr w β x xv) (h : fieldE (tiOf P) s x f = some v) : ∃ val, (Instr.field s xv f).run P w = .ok val w ∧ VR Fr w β v val := by
  unfold fieldE at h
  split at h
  · rename_i fs sz bytes ag zero eq cs ht
    obtain ⟨gs, hg, rfl, hsome⟩ := (tiOf_ok ht).struct
    split at h
    · rename_i fi hfi
      rw [List.getElem?_map] at hfi
      cases hgf : gs.toList[f]? with
      | none => rw [hgf] at hfi; cases hfi
      | some g =>
        rw [hgf] at hfi
        injection hfi with hfi
        have hga : gs[f]? = some g := by rw [← hgf]; simp
        have hgi := hsome g (List.mem_of_getElem? hgf)
        obtain ⟨i, hi⟩ := Option.isSome_iff_exists.1 hgi.1
        cases hx with
        | agg hv =>
          have hag : ∀ w, (isAgg g.type).run P w = .ok fi.ag w := by
            intro w
            obtain ⟨d, hd⟩ := Option.isSome_iff_exists.1 (hsome g (List.mem_of_getElem? hgf)).2
            rw [← hfi]
            unfold Go.isAgg fiOf aggOf
            simp only [Sem.run_bind, run_und hd, Result.andThen_ok, hd]
            cases d <;> rfl
          obtain ⟨val, hr, hv'⟩ := part_ok (P := P) (t := g.type) (ag := fi.ag) (sz := fi.sz) (off := fi.off) hag (fun w => by rw [run_sizeOf w hi, ← hfi]; rfl) hv h
          refine ⟨val, ?_, hv'⟩
          unfold Instr.field
          have hoff : fi.off = g.offset := by rw [← hfi]; rfl
          simp only [Sem.run_bind, run_und hg, Result.andThen_ok, hga, asAgg, Sem.run_pure, ← hoff, hr]
    · cases h
  · cases h

theorem asIntOf_int {k : IntKind} {n : Int} : (asIntOf (.int k n)).run P w = .ok (k, n) w := rfl

theorem flat_row {α : Type} {z : Nat} : ∀ (es : List (List α)) (i : Nat) (row : List α), (∀ e ∈ es, e.length = z) → es[i]? = some row → (es.flatten.drop (i * z)).take z = row
  | [], i, row, _, h => by simp at h
  | e :: es, 0, row, hz, h => by
    simp at h
    subst h
    have := hz e (by simp)
    simp [this, List.take_append_of_le_length]
  | e :: es, i + 1, row, hz, h => by
    have he := hz e (by simp)
    rw [List.getElem?_cons_succ] at h
    have := flat_row es i row (fun x hx => hz x (by simp [hx])) h
    rw [List.flatten_cons, Nat.succ_mul, Nat.add_comm, ← List.drop_drop]
    have h2 : (e ++ es.flatten).drop z = es.flatten := by rw [← he]; exact List.drop_left ..
    rw [h2]
    exact this

theorem indexAddr_ok {t : Nat} {x ix v : EV} {xv iv : Value} (hx : VR Fr w β x xv) (hi : VR Fr w β ix iv) (h : indexAddrE (tiOf P) t x ix = some v) : ∃ val, (Instr.indexAt t xv iv).run P w = .ok val w ∧ VR Fr w β v val := by
  unfold indexAddrE at h
  split at h
  · rename_i ti k i ht
    obtain ⟨ut, sz, bytes, ag, zero, eq⟩ := ti
    cases hi with
    | int =>
      unfold Instr.indexAt
      simp only [Sem.run_bind, asIntOf_int, Result.andThen_ok]
      dsimp only at h
      split at h
      · -- a slice that is read
        have hu := (tiOf_ok ht).slice
        split at h
        · rename_i te hte
          split at h
          · rename_i hi0
            split at h
            · rename_i row hrow
              split at h
              · rename_i hz
                injection h with h
                subst h
                cases hx with
                | fz0 => simp at hrow
                | fz hv hzz hc hl hn ht hk =>
                  have hlt := (List.getElem?_eq_some_iff.1 hrow).1
                  have hz' := hzz row (List.mem_of_getElem? hrow)
                  have hcond : 0 ≤ i ∧ i < ((List.length ‹List (List EV)› : Nat) : Int) := ⟨hi0, by omega⟩
                  rw [← hl] at hcond
                  simp only [run_und hu, Result.andThen_ok, Sem.run_pure, hcond.1, hcond.2, and_self, if_true, Sem.run_ite, Sem.run_bind, (tiOf_ok hte).size, addr_add]
                  refine ⟨_, rfl, ?_⟩
                  rw [← hz, hz']
                  have h2 := flat_row _ _ _ hzz hrow
                  rw [← h2]
                  exact .fp ((hv.drop _).take _) ((hc.drop _).take _)
              · cases h
            · cases h
          · cases h
        · cases h
      · have hu := (tiOf_ok ht).slice
        split at h
        · rename_i te hte
          split at h
          · rename_i hc
            injection h with h
            subst h
            cases hx with
            | sl hb hn hcap hm =>
              simp only [run_und hu, Result.andThen_ok, Sem.run_pure, hc.1, hc.2.1, and_self, if_true, Sem.run_ite, Sem.run_bind, (tiOf_ok hte).size, addr_add]
              refine ⟨_, rfl, ?_⟩
              rw [Nat.add_assoc, hc.2.2]
              exact .ptr hb
          · cases h
        · cases h
      · have hu := (tiOf_ok ht).array
        split at h
        · rename_i te hte
          split at h
          · rename_i hc
            injection h with h
            subst h
            cases hx with
            | ptr hb =>
              simp only [run_und hu, Result.andThen_ok, Sem.run_pure, Instr.sureAddr, hc.1, hc.2, and_self, if_true, Sem.run_ite, Sem.run_bind, (tiOf_ok hte).size, addr_add]
              refine ⟨_, rfl, ?_⟩
              rw [Nat.add_assoc]
              exact .ptr hb
          · cases h
        · cases h
      · have hu := (tiOf_ok ht).array
        split at h
        · rename_i te hte
          split at h
          · rename_i hc
            injection h with h
            subst h
            cases hx with
            | fp h1 h2 =>
              simp only [run_und hu, Result.andThen_ok, Sem.run_pure, Instr.sureAddr, hc.1, hc.2.1, and_self, if_true, Sem.run_ite, Sem.run_bind, (tiOf_ok hte).size, addr_add]
              exact ⟨_, rfl, .fp (h1.drop _) (h2.drop _)⟩
          · cases h
        · cases h
      · cases h
  · cases h

theorem index_ok {t : Nat} {x ix v : EV} {xv iv : Value} (hx : VR Fr w β x xv) (hi : VR Fr w β ix iv) (h : indexE (tiOf P) t x ix = some v) : ∃ val, (Instr.index t xv iv).run P w = .ok val w ∧ VR Fr w β v val := by
  unfold indexE at h
  split at h
  · rename_i ti k i ht
    obtain ⟨ut, sz, bytes, ag, zero, eq⟩ := ti
    cases hi with
    | int =>
      unfold Instr.index
      simp only [Sem.run_bind, asIntOf_int, Result.andThen_ok]
      dsimp only at h
      split at h
      · have hu := (tiOf_ok ht).string
        cases hx with
        | str hs =>
          rename_i s
          subst hs
          split at h
          · rename_i h0
            split at h
            · rename_i b hb
              injection h with h
              subst h
              have hb' : s[i.toNat]? = some b := by
                have hlt := (List.getElem?_eq_some_iff.1 hb).1
                have hsz : i.toNat < s.size := hlt
                rw [getElem?_pos s i.toNat hsz]
                have := (List.getElem?_eq_some_iff.1 hb).2
                simp only [Option.some.injEq]
                rw [← this]
                rfl
              simp only [run_und hu, Result.andThen_ok, h0, if_true, hb', Sem.run_pure]
              exact ⟨_, rfl, .int⟩
            · cases h
          · cases h
      · have hu := (tiOf_ok ht).array
        split at h
        · rename_i te hte
          split at h
          · rename_i hc
            cases hx with
            | agg hv =>
              obtain ⟨val, hr, hv'⟩ := part_ok (P := P) (fun w => (tiOf_ok hte).isAgg w) (fun w => (tiOf_ok hte).size w) hv h
              simp only [run_und hu, Result.andThen_ok, hc.1, hc.2, and_self, if_true, Sem.run_ite, Sem.run_bind, (tiOf_ok hte).size, hr]
              exact ⟨_, rfl, hv'⟩
          · cases h
        · cases h
      · cases h
  · cases h

end
end Go.Ev
end

/- The evaluator E: operations on values: slices of slices, lengths. -/
section
namespace Go.Ev
open Go
set_option linter.unusedSimpArgs false
set_option linter.unusedVariables false

section
variable {P : Program} {Fr : Nat → Nat → Prop} {w : World} {β : Bt} {H : Heap}

theorem bound_ok {y y' n : Nat} {x : EV} {xv : Value} (hy : y ≤ y') (hx : VR Fr w β x xv) (h : boundE y x = some n) (c : BoundsCode) : (Instr.sliceBound xv y' c).run P w = .ok n w ∧ n ≤ y := by
  unfold boundE at h
  split at h
  · split at h
    · rename_i hc
      injection h with h
      subst h
      cases hx with
      | int =>
        unfold Instr.sliceBound
        rename_i _ i
        have : (0 : Int) ≤ i ∧ i ≤ (y' : Int) := ⟨hc.1, Int.le_trans hc.2 (Int.ofNat_le.2 hy)⟩
        simp only [Sem.run_bind, asIntOf_int, Result.andThen_ok, if_pos this, Sem.run_pure]
        exact ⟨trivial, by omega⟩
    · cases h
  · cases h
inductive OR (Fr : Nat → Nat → Prop) (w : World) (β : Bt) : Option EV → Option Value → Prop where
  | none : OR Fr w β none none
  | some {e v} (h : VR Fr w β e v) : OR Fr w β (some e) (some v)

theorem low_ok {h l : Nat} {e : EV} {v : Value} (hv : VR Fr w β e v) (el : loE h (some e) = some l) (c : BoundsCode) : (Instr.sliceBound v h c).run P w = .ok l w ∧ l ≤ h := bound_ok (Nat.le_refl _) hv el c
theorem bounds_none {isS : Bool} {n c h l : Nat} {lo hi : Option EV} {lov hiv : Option Value} (hn : n ≤ c) (hlo : OR Fr w β lo lov) (hhi : OR Fr w β hi hiv)
    (eh : hiE n hi = some h) (el : loE h lo = some l) :
    (Instr.sliceBounds isS n c lov hiv none).run P w = .ok (l, h, c) w ∧ l ≤ h ∧ h ≤ n := by
  unfold Instr.sliceBounds
  cases hhi with
  | none =>
    injection eh with eh
    subst eh
    cases hlo with
    | none => injection el with el; subst el; exact ⟨rfl, Nat.zero_le _, Nat.le_refl _⟩
    | some hv =>
      obtain ⟨e2, h2⟩ := low_ok (P := P) hv el .sliceB
      refine ⟨?_, h2, Nat.le_refl _⟩
      simp only [Sem.run_bind, Sem.run_pure, Result.andThen_ok, Option.isSome_none, Bool.false_eq_true, if_false, e2]
  | some hv1 =>
    obtain ⟨e1, h1⟩ := bound_ok (P := P) hn hv1 eh (if isS then .sliceAcap else .sliceAlen)
    cases hlo with
    | none =>
      injection el with el
      subst el
      refine ⟨?_, Nat.zero_le _, h1⟩
      simp only [Sem.run_bind, Sem.run_pure, Result.andThen_ok, Option.isSome_none, Bool.false_eq_true, if_false, e1]
    | some hv =>
      obtain ⟨e2, h2⟩ := low_ok (P := P) hv el .sliceB
      refine ⟨?_, h2, h1⟩
      simp only [Sem.run_bind, Sem.run_pure, Result.andThen_ok, Option.isSome_none, Bool.false_eq_true, if_false, e1, e2]
theorem bounds_max {isS : Bool} {n c m h l : Nat} {lo : Option EV} {hi mx : EV} {lov : Option Value} {hiv mxv : Value} (hn : n ≤ c) (hlo : OR Fr w β lo lov) (hhi : VR Fr w β hi hiv) (hmx : VR Fr w β mx mxv)
    (em : boundE n mx = some m) (eh : boundE m hi = some h) (el : loE h lo = some l) :
    (Instr.sliceBounds isS n c lov (some hiv) (some mxv)).run P w = .ok (l, h, m) w ∧ l ≤ h ∧ h ≤ m ∧ m ≤ n := by
  unfold Instr.sliceBounds
  obtain ⟨e0, h0⟩ := bound_ok (P := P) hn hmx em (if isS then .slice3Acap else .slice3Alen)
  obtain ⟨e1, h1⟩ := bound_ok (P := P) (Nat.le_refl m) hhi eh .slice3B
  cases hlo with
  | none =>
    injection el with el
    subst el
    refine ⟨?_, Nat.zero_le _, h1, h0⟩
    simp only [Sem.run_bind, e0, Result.andThen_ok, e1, Option.isSome_some, if_true, Sem.run_pure]
  | some hv =>
    obtain ⟨e2, h2⟩ := low_ok (P := P) hv el .slice3C
    refine ⟨?_, h2, h1, h0⟩
    simp only [Sem.run_bind, e0, Result.andThen_ok, e1, Option.isSome_some, if_true, e2, Sem.run_pure]

theorem cut_nil (cs : List EV) (i : Nat) : cut cs i 0 = [] := by simp [cut]
theorem rowsOk_len {z z' : Nat} {es : List (List EV)} (h : rowsOk z es = true) (hz : ∀ e ∈ es, e.length = z') : ∀ e ∈ es, e.length = z := by
  cases es with
  | nil => simp
  | cons a es =>
    simp [rowsOk] at h
    have := hz a (by simp)
    intro e he
    rw [hz e he, ← this, h]
theorem flat_drop {α : Type} {z : Nat} : ∀ (l : Nat) (es : List (List α)), (∀ e ∈ es, e.length = z) → (es.drop l).flatten = es.flatten.drop (l * z)
  | 0, es, _ => by simp
  | l + 1, [], _ => by simp
  | l + 1, e :: es, hz => by
    have he := hz e (by simp)
    rw [List.drop_succ_cons, flat_drop l es (fun x hx => hz x (by simp [hx])), List.flatten_cons, Nat.succ_mul, Nat.add_comm, ← List.drop_drop]
    have h2 : (e ++ es.flatten).drop z = es.flatten := by rw [← he]; exact List.drop_left ..
    rw [h2]
theorem flat_take {α : Type} {z : Nat} : ∀ (l : Nat) (es : List (List α)), (∀ e ∈ es, e.length = z) → (es.take l).flatten = es.flatten.take (l * z)
  | 0, es, _ => by simp
  | l + 1, [], _ => by simp
  | l + 1, e :: es, hz => by
    have he := hz e (by simp)
    rw [List.take_succ_cons, List.flatten_cons, flat_take l es (fun x hx => hz x (by simp [hx])), List.flatten_cons, Nat.succ_mul, Nat.add_comm, ← he, List.take_length_add_append]
/-- A part of what is read. -/
theorem fz_part {es : List (List EV)} {A : Option Addr} {n c z l h m : Nat} {k k' : Cap} (hx : VR Fr w β (.fz es k) (.slice A n c)) (hz : rowsOk z es = true) (hl : l ≤ h) (hh : h ≤ es.length) (hm : h ≤ m) (ht : k' = .tight → m = h)
    (hk : ∀ o, k' = .tok o → k' = k ∧ l = 0 ∧ h = es.length ∧ m = c) :
    VR Fr w β (.fz ((es.drop l).take (h - l)) k') (.slice (if m = l then A else A.map (·.add (l * z))) (h - l) (m - l)) := by
  cases k' with
  | tok o =>
    obtain ⟨rfl, rfl, rfl, rfl⟩ := hk o rfl
    cases hx with
    | fz0 _ hk => exact absurd rfl (hk o)
    | fz a b c d e f g =>
      subst d
      simp only [List.drop_zero, Nat.sub_zero, List.take_length, Nat.zero_mul, Option.map_some, addr_add, Nat.add_zero, ite_self]
      exact .fz a b c rfl e f g
  | _ =>
    by_cases he : h - l = 0
    · rw [he, List.take_zero]
      exact .fz0 (fun e => by have := ht e; omega) (fun o e => by cases e)
    · cases hx with
      | fz0 => simp at hh; omega
      | fz hv hzz hc hle hn htt hkk =>
        rw [if_neg (by omega)]
        simp only [Option.map_some, addr_add]
        have hzz' := rowsOk_len hz hzz
        refine .fz (z := z) ?_ (fun e he => hzz' e (List.mem_of_mem_drop (List.mem_of_mem_take he))) ((hc.drop (l * z)).take ((h - l) * z)) (by simp; omega) (by omega) (fun e => by have := ht e; omega) (fun o e => by cases e)
        rw [flat_take _ _ (fun e he => hzz' e (List.mem_of_mem_drop he)), flat_drop _ _ hzz']
        exact (hv.drop _).take _

theorem bytes_part (b : ByteArray) (l h : Nat) : (b.extract l h).data.toList = (b.data.toList.drop l).take (h - l) := by
  simp [ByteArray.data_extract, List.extract]

theorem slice_ok {t : Nat} {x v : EV} {xv : Value} {lo hi mx : Option EV} {lov hiv mxv : Option Value} (hx : VR Fr w β x xv) (hlo : OR Fr w β lo lov) (hhi : OR Fr w β hi hiv) (hmx : OR Fr w β mx mxv)
    (h : sliceE (tiOf P) t x lo hi mx = some v) : ∃ val, (Instr.sliceAt t xv lov hiv mxv).run P w = .ok val w ∧ VR Fr w β v val := by
  unfold sliceE at h
  split at h
  · -- a string
    rename_i sz bytes ag zero eq ht
    have hu := (tiOf_ok ht).string
    unfold Instr.sliceAt
    simp only [Sem.run_bind, run_und hu, Result.andThen_ok]
    unfold Instr.slice
    simp only [Sem.run_bind, run_und hu, Result.andThen_ok]
    split at h
    · rename_i s
      cases hx with
      | str hs =>
        rename_i b
        subst hs
        cases hmx with
        | none =>
          split at h
          · rename_i hh eh
            split at h
            · rename_i ll el
              injection h with h
              subst h
              obtain ⟨e, _⟩ := bounds_none (P := P) (isS := false) (Nat.le_refl b.size) hlo hhi eh el
              simp only [Option.isSome_none, Bool.false_eq_true, if_false, Sem.run_bind, Sem.run_pure, Result.andThen_ok, e]
              exact ⟨_, rfl, .str (bytes_part _ _ _)⟩
            · cases h
          · cases h
    · cases h
  · rename_i e sz bytes ag zero eq ht
    have hu := (tiOf_ok ht).slice
    split at h
    · rename_i te hte
      have hsz := (tiOf_ok hte).size
      unfold Instr.sliceAt
      simp only [Sem.run_bind, run_und hu, Result.andThen_ok]
      unfold Instr.slice
      simp only [Sem.run_bind, run_und hu, Result.andThen_ok]
      split at h
      · rename_i es k
        split at h
        · rename_i hz
          obtain ⟨A, c, rfl, hn⟩ : ∃ A c, xv = .slice A es.length c ∧ es.length ≤ c := by
            cases hx with
            | fz0 => exact ⟨_, _, rfl, Nat.zero_le _⟩
            | fz _ _ _ hl hn _ _ => subst hl; exact ⟨_, _, rfl, hn⟩
          have htc : k = .tight → c = es.length := by
            cases hx with
            | fz0 ht => exact ht
            | fz _ _ _ hl _ ht _ => exact ht
          split at h
          · cases hmx with
            | none =>
              split at h
              · rename_i hh eh
                split at h
                · rename_i ll el
                  injection h with h
                  subst h
                  obtain ⟨e, h1, h2⟩ := bounds_none (P := P) (isS := true) hn hlo hhi eh el
                  simp only [e, Result.andThen_ok, hsz, Sem.run_pure, Sem.run_bind]
                  refine ⟨_, rfl, fz_part hx hz h1 h2 (by omega) (fun et => ?_) (fun o et => ?_)⟩
                  · split at et
                    · rename_i hhe
                      split at et
                      · simp [htc et, hhe]
                      · split at et
                        · rename_i ek; simp [htc ek, hhe]
                        · cases et
                    · cases et
                  · split at et
                    · rename_i hhe
                      split at et
                      · rename_i hl0
                        rw [if_pos hhe, if_pos hl0]
                        exact ⟨rfl, hl0, hhe, rfl⟩
                      · split at et <;> cases et
                    · cases et
                · cases h
              · cases h
          · cases hmx with
            | some hm => cases hhi with
              | some hhv =>
                split at h
                · rename_i mm em
                  split at h
                  · rename_i hh eh
                    split at h
                    · rename_i ll el
                      injection h with h
                      subst h
                      obtain ⟨e, h1, h2, h3⟩ := bounds_max (P := P) (isS := true) hn hlo hhv hm em eh el
                      simp only [e, Result.andThen_ok, hsz, Sem.run_pure, Sem.run_bind]
                      refine ⟨_, rfl, fz_part hx hz h1 (by omega) h2 (fun et => ?_) (fun o et => ?_)⟩
                      · split at et
                        · assumption
                        · cases et
                      · split at et <;> cases et
                    · cases h
                  · cases h
                · cases h
          · cases h
        · cases h
      · rename_i o i n z cap
        split at h
        · rename_i hz
          cases hx with
          | sl hb hn hcap hrm =>
            rename_i b s c
            split at h
            · cases hmx with
              | none =>
                split at h
                · rename_i hh eh
                  split at h
                  · rename_i ll el
                    obtain ⟨e, h1, h2⟩ := bounds_none (P := P) (isS := true) hn hlo hhi eh el
                    simp only [e, Result.andThen_ok, hsz, Sem.run_pure, Sem.run_bind]
                    refine ⟨_, rfl, ?_⟩
                    split at h
                    · rename_i hlt
                      injection h with h
                      subst h
                      rw [if_neg (by omega)]
                      simp only [Option.map_some, addr_add, ← hz, Nat.add_assoc]
                      refine .sl hb (by omega) (fun k hk => ?_) (hrm.part (by omega) (by rw [Nat.sub_mul]; have := Nat.mul_le_mul_right z (show ll ≤ c by omega); omega))
                      cases cap with
                      | none => cases hk
                      | some cc => injection hk with hk; rw [← hk, hcap _ rfl]
                    · split at h
                      · rename_i hge hl0
                        injection h with h
                        subst h
                        subst hl0
                        have hh0 : hh = 0 := by omega
                        subst hh0
                        simp only [Option.map_some, Nat.zero_mul, addr_add, Nat.add_zero, ite_self, Nat.sub_zero]
                        refine .sl hb (by omega) hcap hrm
                      · injection h with h
                        subst h
                        have : hh - ll = 0 := by omega
                        rw [this]
                        exact .fz0 (fun e => by cases e) (fun o e => by cases e)
                  · cases h
                · cases h
            · cases hmx with
              | some hm => cases hhi with
                | some hhv =>
                  split at h
                  · rename_i mm em
                    split at h
                    · rename_i hh eh
                      split at h
                      · rename_i ll el
                        obtain ⟨e, h1, h2, h3⟩ := bounds_max (P := P) (isS := true) hn hlo hhv hm em eh el
                        simp only [e, Result.andThen_ok, hsz, Sem.run_pure, Sem.run_bind]
                        refine ⟨_, rfl, ?_⟩
                        split at h
                        · rename_i hlt
                          injection h with h
                          subst h
                          rw [if_neg (by omega)]
                          simp only [Option.map_some, addr_add, ← hz, Nat.add_assoc]
                          refine .sl hb (by omega) (fun k hk => ?_) (hrm.part (by omega) (by have h8 := Nat.mul_le_mul_right z (show mm ≤ c by omega); have h9 := Nat.mul_le_mul_right z (show ll ≤ mm by omega); rw [Nat.sub_mul]; omega))
                          injection hk with hk
                        · injection h with h
                          subst h
                          have : hh - ll = 0 := by omega
                          rw [this]
                          refine .fz0 (fun e => ?_) (fun o e => ?_)
                          · split at e
                            · omega
                            · cases e
                          · split at e <;> cases e
                      · cases h
                    · cases h
                  · cases h
            · cases h
        · cases h
      · cases h
    · cases h
  · cases h

theorem len_ok (hr : Rel Fr β H w) {t : Nat} {ts : Array TypeId} {ty : TypeId} {x : EV} {xv : Value} {n : Int} (hx : VR Fr w β x xv) (ht : ts[0]? = some t) (h : lenE (tiOf P) H t x = some n) :
    (Builtin.len_ ts ty #[xv]).run P w = .ok (.int .i64 n) w := by
  unfold lenE at h
  unfold Builtin.len_
  have h0 : (#[xv] : Array Value)[0]? = some xv := rfl
  simp only [ht, h0]
  split at h
  · rename_i sz bytes ag zero eq hti
    have hu := (tiOf_ok hti).string
    simp only [Sem.run_bind, run_und hu, Result.andThen_ok]
    split at h
    · injection h with h
      subst h
      cases hx with | str hs => subst hs; rfl
    · cases h
  · rename_i e sz bytes ag zero eq hti
    have hu := (tiOf_ok hti).slice
    simp only [Sem.run_bind, run_und hu, Result.andThen_ok]
    split at h
    · injection h with h
      subst h
      cases hx with
      | fz0 => rfl
      | fz _ _ _ hl _ _ _ => subst hl; rfl
    · injection h with h
      subst h
      cases hx with | sl => rfl
    · cases h
  · rename_i n' e sz bytes ag zero eq hti
    have hu := (tiOf_ok hti).array
    simp only [Sem.run_bind, run_und hu, Result.andThen_ok]
    injection h with h
    subst h
    rfl
  · rename_i k e sz bytes ag zero eq hti
    have hu := (tiOf_ok hti).map
    simp only [Sem.run_bind, run_und hu, Result.andThen_ok]
    split at h
    · injection h with h
      subst h
      cases hx with | nilm => rfl
    · injection h with h
      subst h
      cases hx with
      | fm hk hv hb hf =>
        have hl := hk.length
        simp only [List.length_map, Array.length_toList] at hl
        simp only [getObj, Sem.run_bind, Sem.run, hb, Result.andThen_ok, Sem.run_pure, goInt, hl]
    · split at h
      · rename_i o es ho
        injection h with h
        subst h
        cases hx with
        | map hb =>
          obtain ⟨ents, clock, hh, hk, hv⟩ := hr.maps _ _ _ _ ho hb
          have hl := hk.length
          simp only [List.length_map, Array.length_toList] at hl
          simp only [getObj, Sem.run_bind, Sem.run, hh, Result.andThen_ok, Sem.run_pure, goInt, hl]
      · cases h
    · cases h
  · cases h

end
end Go.Ev
end

/- The evaluator E: operations on values: comparisons, arithmetic. -/
section
namespace Go.Ev
open Go
set_option linter.unusedSimpArgs false
set_option linter.unusedVariables false

section
variable {P : Program} {Fr : Nat → Nat → Prop} {w : World} {β : Bt} {H : Heap}

theorem eqS_ok {t d : Nat} {x y : EV} {xv yv : Value} {b : Bool} (hx : VR Fr w β x xv) (hy : VR Fr w β y yv) (h : eqS (tiOf P) t x y = some b) : (Op.equalIn (d + 1) t xv yv).run P w = .ok b w := by
  unfold eqS at h
  split at h
  · rename_i ti ht
    obtain ⟨ut, sz, bytes, ag, zero, eq⟩ := ti
    dsimp only at h
    unfold Op.equalIn
    split at h
    · split at h
      · rename_i hk
        injection h with h
        subst h
        have hu := (tiOf_ok ht).int
        cases hx with | int => cases hy with | int => simp only [Sem.run_bind, run_und hu, Result.andThen_ok, if_pos hk, Sem.run_pure]
      · cases h
    · injection h with h
      subst h
      have hu := (tiOf_ok ht).bool
      cases hx with | bool => cases hy with | bool => simp only [Sem.run_bind, run_und hu, Result.andThen_ok, Sem.run_pure]
    · injection h with h
      subst h
      have hu := (tiOf_ok ht).string
      cases hx with | str h1 => cases hy with | str h2 =>
        subst h1; subst h2
        simp only [Sem.run_bind, run_und hu, Result.andThen_ok, Sem.run_pure, beq_toListBytes, ByteArray.toList_eq]
    · cases h
  · cases h

theorem run_part_cell {t : Nat} {vs : List Value} {off : Nat} {v : Value} (hs : scalarOf P t = true) (hv : vs[off]? = some v) : (part t vs.toArray off).run P w = .ok v w := by
  have hag : (isAgg t).run P w = .ok false w := by
    unfold scalarOf at hs
    unfold Go.isAgg
    split at hs <;> first | (rename_i hu; simp only [Sem.run_bind, run_und hu, Result.andThen_ok]; rfl) | cases hs
  unfold part
  simp only [Sem.run_bind, hag, Result.andThen_ok, Bool.false_eq_true, if_false, List.getElem?_toArray, hv, Sem.run_pure]

theorem eqL_nil {T : TT} {xs ys : List EV} {r : Bool} (h : eqL T [] xs ys = some r) : r = true := by
  cases xs <;> cases ys <;> simp_all [eqL]
theorem eqL_cons {T : TT} {t : Nat} {ts : List Nat} {xs ys : List EV} {r : Bool} (h : eqL T (t :: ts) xs ys = some r) :
    ∃ x xs' y ys', xs = x :: xs' ∧ ys = y :: ys' ∧ ((eqS T t x y = some true ∧ eqL T ts xs' ys' = some r) ∨ (eqS T t x y = some false ∧ r = false)) := by
  cases xs with
  | nil => cases ys <;> simp [eqL] at h
  | cons x xs =>
    cases ys with
    | nil => simp [eqL] at h
    | cons y ys =>
      refine ⟨x, xs, y, ys, rfl, rfl, ?_⟩
      simp only [eqL] at h
      cases he : eqS T t x y with
      | none => simp [he] at h
      | some b =>
        cases b with
        | true => exact .inl ⟨rfl, by simpa [he] using h⟩
        | false => exact .inr ⟨rfl, by simpa [he] using h.symm⟩
theorem drop_cons {α : Type} {l l' : List α} {n : Nat} {x : α} (h : l.drop n = x :: l') : l[n]? = some x ∧ l.drop (n + 1) = l' := by
  constructor
  · have : (l.drop n)[0]? = some x := by rw [h]; rfl
    rw [List.getElem?_drop] at this
    simpa using this
  · rw [← List.drop_drop, h]
    rfl

theorem fields_ok {d : Nat} {xs ys : List EV} {us vs : List Value} (hx : VRs Fr w β xs us) (hy : VRs Fr w β ys vs) : ∀ (fs : List Field) (n : Nat) {b : Bool}, lineOf P fs n = true →
    eqL (tiOf P) (fs.map (fun f => f.type)) (xs.drop n) (ys.drop n) = some b →
    (do
      for f in fs do
        if f.name ≠ "_" then
          if !(← Op.equalIn (d + 1) f.type (← part f.type us.toArray f.offset) (← part f.type vs.toArray f.offset)) then return false
      pure true : Sem Bool).run P w = .ok b w
  | [], n, b, _, h => by
    rw [eqL_nil h]
    rfl
  | f :: fs, n, b, hl, h => by
    simp only [lineOf, Bool.and_eq_true, beq_iff_eq, bne_iff_ne] at hl
    obtain ⟨⟨⟨ho, hn⟩, hs⟩, hl⟩ := hl
    obtain ⟨x, xs', y, ys', e1, e2, h3⟩ := eqL_cons (by simpa using h)
    clear h
    obtain ⟨g1, d1⟩ := drop_cons e1
    obtain ⟨g2, d2⟩ := drop_cons e2
    obtain ⟨u, hu, hxu⟩ := hx.get g1
    obtain ⟨v, hv, hyv⟩ := hy.get g2
    have p1 := run_part_cell (P := P) (w := w) hs hu
    have p2 := run_part_cell (P := P) (w := w) hs hv
    subst ho
    simp only [List.forIn_cons, ne_eq, hn, not_false_eq_true, if_true, Sem.run_bind, p1, p2, Result.andThen_ok]
    rcases h3 with ⟨he, h⟩ | ⟨he, rfl⟩
    · have := eqS_ok (P := P) (d := d) hxu hyv he
      have ih := fields_ok hx hy fs (f.offset + 1) hl (by rw [d1, d2]; exact h) (d := d)
      simp only [this, Result.andThen_ok, Bool.not_true, Bool.false_eq_true, if_false, Sem.run_pure]
      simpa using ih
    · have := eqS_ok (P := P) (d := d) hxu hyv he
      simp only [this, Result.andThen_ok, Bool.not_false, if_true, Sem.run_pure]
theorem elems_ok {d e : Nat} {xs ys : List EV} {us vs : List Value} (hs : scalarOf P e = true) (hx : VRs Fr w β xs us) (hy : VRs Fr w β ys vs) : ∀ (m n : Nat) {b : Bool},
    eqL (tiOf P) (List.replicate m e) (xs.drop n) (ys.drop n) = some b →
    (do
      for i in List.range' n m do
        if !(← Op.equalIn (d + 1) e (← part e us.toArray (i * 1)) (← part e vs.toArray (i * 1))) then return false
      pure true : Sem Bool).run P w = .ok b w
  | 0, n, b, h => by
    rw [eqL_nil h]
    rfl
  | m + 1, n, b, h => by
    obtain ⟨x, xs', y, ys', e1, e2, h3⟩ := eqL_cons (by simpa [List.replicate_succ] using h)
    clear h
    obtain ⟨g1, d1⟩ := drop_cons e1
    obtain ⟨g2, d2⟩ := drop_cons e2
    obtain ⟨u, hu, hxu⟩ := hx.get g1
    obtain ⟨v, hv, hyv⟩ := hy.get g2
    have p1 := run_part_cell (P := P) (w := w) hs hu
    have p2 := run_part_cell (P := P) (w := w) hs hv
    simp only [List.range'_succ, List.forIn_cons, Nat.mul_one, Sem.run_bind, p1, p2, Result.andThen_ok]
    rcases h3 with ⟨he, h⟩ | ⟨he, rfl⟩
    · have := eqS_ok (P := P) (d := d) hxu hyv he
      have ih := elems_ok hs hx hy m (n + 1) (by rw [d1, d2]; exact h) (d := d)
      simp only [this, Result.andThen_ok, Bool.not_true, Bool.false_eq_true, if_false, Sem.run_pure]
      simpa using ih
    · have := eqS_ok (P := P) (d := d) hxu hyv he
      simp only [this, Result.andThen_ok, Bool.not_false, if_true, Sem.run_pure]

theorem eq_ok {t d : Nat} {x y : EV} {xv yv : Value} {b : Bool} (hx : VR Fr w β x xv) (hy : VR Fr w β y yv) (h : eqE (tiOf P) t x y = some b) : (Op.equalIn (d + 2) t xv yv).run P w = .ok b w := by
  unfold eqE at h
  split at h
  · rename_i ti ht
    have hS := eqS_ok (P := P) (t := t) (d := d + 1) (b := b) hx hy
    obtain ⟨ut, sz, bytes, ag, zero, eq⟩ := ti
    have hT := tiOf_ok ht
    dsimp only at h
    split at h
    · exact hS (by unfold eqS; rw [ht]; exact h)
    · exact hS (by unfold eqS; rw [ht]; exact h)
    · exact hS (by unfold eqS; rw [ht]; exact h)
    · -- a struct
      rename_i fs xs ys
      split at h
      · rename_i hc
        obtain ⟨gs, hg, rfl, _⟩ := hT.struct
        have he : eqOf P t = true := by rw [← hT.eq]; exact hc.1
        unfold eqOf at he
        rw [hg] at he
        simp only [Bool.and_eq_true, Bool.not_eq_true', beq_iff_eq] at he
        obtain ⟨⟨⟨hl, _⟩, hst⟩, _⟩ := he
        cases hx with
        | agg hx => cases hy with
          | agg hy =>
            unfold Op.equalIn
            simp only [Sem.run_bind, run_und hg, Result.andThen_ok, run_program, hst, Bool.false_eq_true, if_false]
            have := fields_ok (P := P) (d := d) hx hy gs.toList 0 hl (by simpa [List.map_map, Function.comp_def, fiOf] using h)
            simp only [Sem.run_bind] at this
            simpa using this
      · cases h
    · rename_i n e xs ys
      split at h
      · rename_i hc
        have hg := hT.array
        have he : eqOf P t = true := by rw [← hT.eq]; exact hc.1
        unfold eqOf at he
        rw [hg] at he
        simp only [Bool.and_eq_true, Bool.not_eq_true', beq_iff_eq] at he
        obtain ⟨⟨⟨hs, h1⟩, _⟩, _⟩ := he
        cases hx with
        | agg hx => cases hy with
          | agg hy =>
            unfold Op.equalIn
            have hsz : (sizeOf e).run P w = .ok 1 w := by
              unfold Program.cellsOf at h1
              cases hi : P.info? e with
              | none => rw [hi] at h1; cases h1
              | some i => rw [run_sizeOf w hi, Program.cellsOf, hi, ← h1, hi]
            simp only [Sem.run_bind, run_und hg, Result.andThen_ok, hsz]
            have := elems_ok (P := P) (d := d) hs hx hy n 0 (by simpa using h)
            simp only [Sem.run_bind] at this
            simp only [Std.Legacy.Range.forIn_eq_forIn_range', Std.Legacy.Range.size, Nat.sub_zero, Nat.add_sub_cancel, Nat.div_one]
            simpa using this
      · cases h
    · obtain ⟨e, hu⟩ := hT.pointer
      injection h with h; subst h
      cases hx with | ptr => cases hy with | nilp => unfold Op.equalIn; simp only [Sem.run_bind, run_und hu, Result.andThen_ok, Sem.run_pure]
    · obtain ⟨e, hu⟩ := hT.pointer
      injection h with h; subst h
      cases hx with | fp => cases hy with | nilp => unfold Op.equalIn; simp only [Sem.run_bind, run_und hu, Result.andThen_ok, Sem.run_pure]
    · obtain ⟨e, hu⟩ := hT.pointer
      injection h with h; subst h
      cases hx with | nilp => cases hy with | ptr => unfold Op.equalIn; simp only [Sem.run_bind, run_und hu, Result.andThen_ok, Sem.run_pure, Option.isNone_some]
    · obtain ⟨e, hu⟩ := hT.pointer
      injection h with h; subst h
      cases hx with | nilp => cases hy with | fp => unfold Op.equalIn; simp only [Sem.run_bind, run_und hu, Result.andThen_ok, Sem.run_pure, Option.isNone_some]
    · obtain ⟨e, hu⟩ := hT.pointer
      injection h with h; subst h
      cases hx with | nilp => cases hy with | nilp => unfold Op.equalIn; simp only [Sem.run_bind, run_und hu, Result.andThen_ok, Sem.run_pure, Option.isNone_none]
    · obtain ⟨a, b, c, hu⟩ := hT.func
      injection h with h; subst h
      cases hx with | fn => cases hy with | nilf => unfold Op.equalIn; simp only [Sem.run_bind, run_und hu, Result.andThen_ok, Sem.run_pure]
    · obtain ⟨a, b, c, hu⟩ := hT.func
      injection h with h; subst h
      cases hx with | nilf => cases hy with | fn => unfold Op.equalIn; simp only [Sem.run_bind, run_und hu, Result.andThen_ok, Sem.run_pure]
    · obtain ⟨a, b, c, hu⟩ := hT.func
      injection h with h; subst h
      cases hx with | nilf => cases hy with | nilf => unfold Op.equalIn; simp only [Sem.run_bind, run_und hu, Result.andThen_ok, Sem.run_pure]
    · cases h
  · cases h

theorem equal_ok {t : Nat} {x y : EV} {xv yv : Value} {b : Bool} (hx : VR Fr w β x xv) (hy : VR Fr w β y yv) (h : eqE (tiOf P) t x y = some b) : (Op.equal t xv yv).run P w = .ok b w := eq_ok (d := 9998) hx hy h

/-- The guard against two nil values of an interface type lets it pass. -/
theorem guard_ok {op : BinOp} {t : Nat} {x y : Operand} {a b : EV} {av bv : Value} (ha : VR Fr w β a av) (hb : VR Fr w β b bv) (h : ∀ cs ds, a = .agg cs → b = .agg ds → P.eqGuardType P.depth t = false) : (eqGuard op t x y av bv).run P w = .ok () w := by
  unfold eqGuard
  simp only [Sem.run_bind, Sem.run_ite]
  cases ha <;> cases hb <;> first
    | (have h0 := h _ _ rfl rfl
       split <;> simp [Result.andThen, h0]
       done)
    | (simp only [Go.undef]; split <;> simp [Result.andThen]; done)
/-- What '==' is asked of, but whole numbers and strings. -/
inductive Shp : EV → EV → Prop where
  | bool {a b} : Shp (.bool a) (.bool b)
  | agg {a b} : Shp (.agg a) (.agg b)
  | pn {o i} : Shp (.ptr o i) .nilp
  | fn {o} : Shp (.fp o) .nilp
  | np {o i} : Shp .nilp (.ptr o i)
  | nf {o} : Shp .nilp (.fp o)
  | nn : Shp .nilp .nilp
  | un {f a b} : Shp (.fn f a b) .nilf
  | nu {f a b} : Shp .nilf (.fn f a b)
  | ff : Shp .nilf .nilf
theorem eqE_shape {t : Nat} {x y : EV} {b : Bool} (h : eqE (tiOf P) t x y = some b) (hi : ∀ k a k' b, x = .int k a → y = .int k' b → False) (hs : ∀ a b, x = .str a → y = .str b → False) : Shp x y ∧ ∀ cs ds, x = .agg cs → y = .agg ds → P.eqGuardType P.depth t = false := by
  unfold eqE at h
  split at h
  · rename_i ti ht
    have hT := tiOf_ok ht
    obtain ⟨ut, sz, bytes, ag, zero, eq⟩ := ti
    dsimp only at h
    split at h
    · exact (hi _ _ _ _ rfl rfl).elim
    · exact ⟨.bool, fun _ _ e => by cases e⟩
    · exact (hs _ _ rfl rfl).elim
    · refine ⟨.agg, fun _ _ _ _ => ?_⟩
      split at h
      · rename_i hc
        have he : eqOf P t = true := by rw [← hT.eq]; exact hc.1
        obtain ⟨gs, hg, _, _⟩ := hT.struct
        unfold eqOf at he
        rw [hg] at he
        simp only [Bool.and_eq_true, Bool.not_eq_true', beq_iff_eq] at he
        exact he.2
      · cases h
    · refine ⟨.agg, fun _ _ _ _ => ?_⟩
      split at h
      · rename_i hc
        have he : eqOf P t = true := by rw [← hT.eq]; exact hc.1
        have hg := hT.array
        unfold eqOf at he
        rw [hg] at he
        simp only [Bool.and_eq_true, Bool.not_eq_true', beq_iff_eq] at he
        exact he.2
      · cases h
    · exact ⟨.pn, fun _ _ e => by cases e⟩
    · exact ⟨.fn, fun _ _ e => by cases e⟩
    · exact ⟨.np, fun _ _ e => by cases e⟩
    · exact ⟨.nf, fun _ _ e => by cases e⟩
    · exact ⟨.nn, fun _ _ e => by cases e⟩
    · exact ⟨.un, fun _ _ e => by cases e⟩
    · exact ⟨.nu, fun _ _ e => by cases e⟩
    · exact ⟨.ff, fun _ _ e => by cases e⟩
    · cases h
  · cases h
theorem shp_bin {t : Nat} {a b : EV} {av bv : Value} (hs : Shp a b) (ha : VR Fr w β a av) (hb : VR Fr w β b bv) :
    binOp .eql t av bv = (do pure (.bool (← Op.equal t av bv))) ∧ binOp .neq t av bv = (do pure (.bool (!(← Op.equal t av bv)))) := by
  cases hs <;> cases ha <;> cases hb <;> exact ⟨rfl, rfl⟩
theorem bin_guard {op : BinOp} {t : Nat} {a b v : EV} (h : binE (tiOf P) op t a b = some v) (cs ds : List EV) (e1 : a = .agg cs) (e2 : b = .agg ds) : P.eqGuardType P.depth t = false := by
  subst e1; subst e2
  unfold binE at h
  dsimp only at h
  split at h
  · split at h
    · rename_i b' he
      exact (eqE_shape he (fun _ _ _ _ e => by cases e) (fun _ _ e => by cases e)).2 _ _ rfl rfl
    · cases h
  · split at h
    · rename_i b' he
      exact (eqE_shape he (fun _ _ _ _ e => by cases e) (fun _ _ e => by cases e)).2 _ _ rfl rfl
    · cases h
  · cases h

theorem nil_ok {op : BinOp} {t : Nat} {x y : Operand} {r : Bool} {a v : EV} {av bv : Value} (ha : VR Fr w β a av) (hy : nilC op y = some r) (hb : y = .const (.slice none 0 0) → bv = .slice none 0 0) (h : nilE (tiOf P) t r a = some v) :
    ∃ val, (do eqGuard op t x y av bv; binOp op t av bv : Sem Value).run P w = .ok val w ∧ VR Fr w β v val := by
  unfold nilE at h
  split at h
  · rename_i e sz bytes ag zero eq ht
    have hT := tiOf_ok ht
    have hu := hT.slice
    have hop : ∃ o n c', av = .slice (some o) n c' ∧ v = .bool r := by
      split at h
      · injection h with h
        subst h
        cases ha with
        | fz a1 a2 a3 a4 a5 a6 a7 => exact ⟨_, _, _, rfl, rfl⟩
      · injection h with h
        subst h
        cases ha with
        | sl a1 a2 a3 a4 => exact ⟨_, _, _, rfl, rfl⟩
      · cases h
    obtain ⟨o, n, c', rfl, rfl⟩ := hop
    have heq : (Op.equal t (.slice (some o) n c') (.slice none 0 0)).run P w = .ok false w := by
      unfold Op.equal Op.maxDepth Op.equalIn
      simp only [Sem.run_bind, run_und hu, Result.andThen_ok, Sem.run_pure]
    have hyc : y = .const (.slice none 0 0) ∧ ((op = .eql ∧ r = false) ∨ (op = .neq ∧ r = true)) := by
      unfold nilC at hy
      split at hy
      · injection hy with hy; exact ⟨rfl, .inl ⟨rfl, hy.symm⟩⟩
      · injection hy with hy; exact ⟨rfl, .inr ⟨rfl, hy.symm⟩⟩
      · cases hy
    obtain ⟨rfl, hyc⟩ := hyc
    rw [hb rfl]
    have hg : (eqGuard op t x (.const (.slice none 0 0)) (.slice (some o) n c') (.slice none 0 0)).run P w = .ok () w := by
      unfold eqGuard
      simp only [Sem.run_bind, Sem.run_ite]
      split <;> simp [Result.andThen]
    simp only [Sem.run_bind, hg, Result.andThen_ok]
    rcases hyc with ⟨rfl, rfl⟩ | ⟨rfl, rfl⟩
    · refine ⟨.bool false, ?_, .bool⟩
      simp only [binOp, Sem.run_bind, heq, Result.andThen_ok, Sem.run_pure]
    · refine ⟨.bool true, ?_, .bool⟩
      simp only [binOp, Sem.run_bind, heq, Result.andThen_ok, Sem.run_pure, Bool.not_false]
  · cases h

theorem bin_ok {op : BinOp} {t : Nat} {x y : Operand} {a b v : EV} {av bv : Value} (ha : VR Fr w β a av) (hb : VR Fr w β b bv) (h : binE (tiOf P) op t a b = some v) :
    ∃ val, (do eqGuard op t x y av bv; binOp op t av bv : Sem Value).run P w = .ok val w ∧ VR Fr w β v val := by
  have hg : (eqGuard op t x y av bv).run P w = .ok () w := guard_ok ha hb (bin_guard h)
  simp only [Sem.run_bind, hg, Result.andThen_ok]
  unfold binE at h
  split at h
  · -- whole numbers
    rename_i k a k' b
    cases ha with
    | int => cases hb with
      | int =>
        split at h
        · split at h
          · rename_i h0
            injection h with h
            subst h
            refine ⟨_, ?_, .int⟩
            simp only [binOp, Op.shift, if_neg (Int.not_lt.2 h0), Sem.run_pure]
          · cases h
        · split at h
          · rename_i h0
            injection h with h
            subst h
            refine ⟨_, ?_, .int⟩
            simp only [binOp, Op.shift, if_neg (Int.not_lt.2 h0), Sem.run_pure]
          · cases h
        · split at h
          · rename_i hns1 hns2 hk
            subst hk
            split at h
            case h_4 =>
              split at h
              · cases h
              · rename_i hb0
                injection h with h; subst h
                refine ⟨_, ?_, .int⟩
                simp only [binOp, Op.intDiv, if_neg hb0, ne_eq, not_true_eq_false, if_false, Sem.run_pure]
            case h_5 =>
              split at h
              · cases h
              · rename_i hb0
                injection h with h; subst h
                refine ⟨_, ?_, .int⟩
                simp only [binOp, Op.intDiv, if_neg hb0, ne_eq, not_true_eq_false, if_false, Sem.run_pure]
            all_goals first
              | (injection h with h; subst h; exact ⟨_, by simp only [binOp, Op.intArith, Op.intCmp, Op.intBits, ne_eq, not_true_eq_false, if_false, Sem.run_pure]; rfl, by first | exact .int | exact .bool⟩)
              | cases h
          · cases h
  · rename_i a b
    cases ha with
    | str ha => cases hb with
      | str hb =>
        rename_i u v
        subst ha; subst hb
        split at h
        · split at h
          · rename_i hl
            injection h with h
            subst h
            refine ⟨_, ?_, .str (b := u ++ v) (by simp [ByteArray.data_append])⟩
            have : ¬ (((u.size + v.size : Nat) : Int) > IntKind.i64.max) := by
              have : IntKind.i64.max = 9223372036854775807 := by decide
              have h1 : u.data.toList.length = u.size := rfl
              have h2 : v.data.toList.length = v.size := rfl
              rw [this]; omega
            simp only [binOp, Op.stringOp, if_neg this, Sem.run_pure]
          · cases h
        all_goals first | (injection h with h; subst h; refine ⟨.bool _, ?_, .bool⟩; simp only [binOp, Op.stringOp, ByteArray.toList_eq, Sem.run_pure]; done) | cases h
  · rename_i hni hns
    split at h
    · split at h
      · rename_i b' he
        injection h with h
        subst h
        have hs := (eqE_shape he (fun k a k' b e1 e2 => hni k a k' b e1 e2) (fun a b e1 e2 => hns a b e1 e2)).1
        rw [(shp_bin hs ha hb).1]
        simp only [Sem.run_bind, equal_ok ha hb he, Result.andThen_ok, Sem.run_pure]
        exact ⟨_, rfl, .bool⟩
      · cases h
    · split at h
      · rename_i b' he
        injection h with h
        subst h
        have hs := (eqE_shape he (fun k a k' b e1 e2 => hni k a k' b e1 e2) (fun a b e1 e2 => hns a b e1 e2)).1
        rw [(shp_bin hs ha hb).2]
        simp only [Sem.run_bind, equal_ok ha hb he, Result.andThen_ok, Sem.run_pure]
        exact ⟨_, rfl, .bool⟩
      · cases h
    · cases h

theorem un_ok {op : UnOp} {a v : EV} {av : Value} (ha : VR Fr w β a av) (h : unE op a = some v) : ∃ val, (Op.unary op av).run P w = .ok val w ∧ VR Fr w β v val := by
  unfold unE at h
  split at h
  · injection h with h; subst h
    cases ha with | int => exact ⟨_, rfl, .int⟩
  · injection h with h; subst h
    cases ha with | int => exact ⟨_, rfl, .int⟩
  · injection h with h; subst h
    cases ha with | bool => exact ⟨_, rfl, .bool⟩
  · cases h
theorem extreme_ok {big : Bool} : ∀ {r : List EV} {rv : List Value} {a v : EV} {av : Value}, VR Fr w β a av → VRs Fr w β r rv → extremeE big a r = some v →
    ∃ val, (rv.foldlM (if big then Builtin.max2 else Builtin.min2) av).run P w = .ok val w ∧ VR Fr w β v val
  | [], rv, a, v, av, ha, hr, h => by
    cases hr
    cases a <;> (simp only [extremeE] at h; injection h with h; subst h; exact ⟨av, rfl, ha⟩)
  | b :: r, rv, a, v, av, ha, hr, h => by
    cases hr with
    | cons hb hr =>
      cases a <;> cases b <;> simp only [extremeE] at h <;> try (cases h; done)
      cases ha with | int => cases hb with | int =>
        obtain ⟨val, e, hv⟩ := extreme_ok (.int) hr h
        refine ⟨val, ?_, hv⟩
        simp only [List.foldlM_cons, Sem.run_bind]
        cases big <;> simpa [Builtin.max2, Builtin.min2] using e

end
end Go.Ev
end

/- The evaluator E: conversions, maps that are read. -/
section
namespace Go.Ev
open Go
set_option linter.unusedSimpArgs false
set_option linter.unusedVariables false

section
variable {P : Program} {Fr : Nat → Nat → Prop} {w : World} {β : Bt} {H : Heap}

theorem TOk.und' {t : Nat} {ti : TI} (h : tiOf P t = some ti) : ∃ d, P.underlying t = some d := (tiOf_ok h).und

theorem bytes_loop : ∀ (cs : List EV) (vs : List Value) (l : List UInt8) (s : ByteArray), VRs Fr w β cs vs → bytesE cs = some l →
    (forIn vs s (fun c s => match c with
      | .int .u8 n => pure (ForInStep.yield (s.push (UInt8.ofNat n.toNat)))
      | _ => do
        (stuck "bytesToString: byte expected" : Sem PUnit)
        pure (ForInStep.yield s)) : Sem ByteArray).run P w = .ok ⟨s.data ++ l.toArray⟩ w
  | [], vs, l, s, hv, h => by
    cases hv
    simp only [bytesE] at h
    injection h with h
    subst h
    simp
  | c :: cs, vs, l, s, hv, h => by
    cases hv with
    | cons hc hv =>
      unfold bytesE at h
      split at h
      · contradiction
      · rename_i n r heq
        injection heq with e1 e2
        subst e1; subst e2
        split at h
        · rename_i l' hl
          injection h with h
          subst h
          cases hc with
          | int =>
            have ih := bytes_loop cs _ l' (s.push (UInt8.ofNat n.toNat)) hv hl
            simp only [List.forIn_cons, Sem.run_bind, Sem.run_pure, Result.andThen_ok]
            rw [ih]
            congr 2
            simp [ByteArray.push]
        · cases h
      · cases h

theorem chunk_length (z : Nat) : ∀ (n : Nat) (cs : List EV), (chunk z n cs).length = n
  | 0, _ => rfl
  | n + 1, cs => by simp [chunk, chunk_length z n]
theorem chunk_width (z : Nat) : ∀ (n : Nat) (cs : List EV), n * z ≤ cs.length → ∀ e ∈ chunk z n cs, e.length = z
  | 0, _, _ => by simp [chunk]
  | n + 1, cs, h => by
    intro e he
    rw [Nat.succ_mul] at h
    simp only [chunk, List.mem_cons] at he
    rcases he with rfl | he
    · simp; omega
    · exact chunk_width z n _ (by simp; omega) e he
theorem chunk_flat (z : Nat) : ∀ (n : Nat) (cs : List EV), (chunk z n cs).flatten = cs.take (n * z)
  | 0, _ => by simp [chunk]
  | n + 1, cs => by
    simp only [chunk, List.flatten_cons, chunk_flat z n]
    rw [Nat.succ_mul, Nat.add_comm, List.take_add]

theorem sliceRows_ok (hr : Rel Fr β H w) {z : Nat} {x : EV} {xv : Value} {es : List (List EV)} (hx : VR Fr w β x xv) (h : sliceRows H z x = some es) :
    ∃ (A : Option Addr) (n c : Nat) (vs : List Value), xv = .slice A n c ∧ es.length = n ∧ (∀ e ∈ es, e.length = z) ∧ VRs Fr w β es.flatten vs ∧ (A = none → n = 0) ∧ (∀ a, A = some a → ∀ d, (loadCells a (n * z)).run P { w with drawn := d } = .ok vs.toArray { w with drawn := d }) := by
  unfold sliceRows at h
  split at h
  · rename_i es' k
    split at h
    · rename_i hl
      injection h with h
      subst h
      cases hx with
      | fz0 =>
        refine ⟨_, _, _, [], rfl, rfl, by simp, .nil, fun _ => rfl, fun a _ d => ?_⟩
        rw [Nat.zero_mul]
        rfl
      | fz hv hz hc hn hnc ht hk =>
        rename_i vs b s z' n c
        have hzz := rowsOk_len hl hz
        have hfl : es'.flatten.length = n * z := by
          have := chunk_flat z
          rw [List.length_flatten, hn]
          clear hv hc ht hk hn hl hz hnc this
          induction es' with
          | nil => simp
          | cons a es ih => simp [hzz a (by simp), ih (fun e he => hzz e (by simp [he])), Nat.succ_mul, Nat.add_comm]
        refine ⟨_, _, _, vs, rfl, hn.symm, hzz, hv.up, (fun e => by cases e), fun a ha d => ?_⟩
        injection ha with ha
        subst ha
        have hlv := hv.length
        have := run_cells (P := P) (w := { w with drawn := d }) (b := b) (s := s) (vs := vs) (i := 0) (n := n * z) (fun j v hj => (hc j v hj).2) (by omega)
        rw [Nat.add_zero, List.drop_zero, List.take_of_length_le (by omega)] at this
        exact this
    · cases h
  · rename_i o i n z' cap
    split at h
    · rename_i hz
      subst hz
      split at h
      · rename_i cs' ho
        split at h
        · rename_i hl
          injection h with h
          subst h
          cases hx with
          | sl hb hn hcap hm =>
            obtain ⟨vs, hv, hc⟩ := hr.cell ho hb
            have hlv := hv.length
            refine ⟨_, _, _, (vs.drop i).take (n * z), rfl, chunk_length _ _ _, chunk_width _ _ _ (by simp; omega), ?_, (fun e => by cases e), fun a ha d => ?_⟩
            · rw [chunk_flat]
              exact hv.cut i (n * z)
            · injection ha with ha
              subst ha
              exact run_cells (w := { w with drawn := d }) hc (by omega)
        · cases h
      · cases h
    · cases h
  · cases h

theorem conv_ok (hr : Rel Fr β H w) {src dst : Nat} {x v : EV} {xv : Value} (hx : VR Fr w β x xv) (h : convE (tiOf P) H src dst x = some v) : ∃ val, (convert src dst xv).run P w = .ok val w ∧ VR Fr w β v val := by
  unfold convE at h
  split at h
  · rename_i ts td hs hd
    obtain ⟨ds, hus⟩ := TOk.und' hs
    obtain ⟨ut, sz, bytes, ag, zero, eq⟩ := td
    obtain ⟨ut', sz', bytes', ag', zero', eq'⟩ := ts
    dsimp only at h
    unfold convert
    split at h
    · injection h with h
      subst h
      have hu := (tiOf_ok hd).int
      cases hx with
      | int =>
        simp only [Sem.run_bind, run_und hus, run_und hu, Result.andThen_ok]
        exact ⟨_, rfl, .int⟩
    · injection h with h
      subst h
      have hu := (tiOf_ok hd).string
      cases hx with
      | str hs' =>
        simp only [Sem.run_bind, run_und hus, run_und hu, Result.andThen_ok]
        refine ⟨_, ?_, .str hs'⟩
        cases ds <;> rfl
    · rename_i e hne
      have hu := (tiOf_ok hd).string
      have hus' := (tiOf_ok hs).slice
      split at h
      · rename_i hte
        have hue := (tiOf_ok hte).int
        split at h
        · rename_i cs hcs
          split at h
          · rename_i l hl
            injection h with h
            subst h
            obtain ⟨A, n, c, vs, rfl, hlen, hwd, hv, hA, hrun⟩ := sliceRows_ok (P := P) hr hx hcs
            simp only [Sem.run_bind, run_und hus', run_und hu, Result.andThen_ok, run_und hue]
            unfold Conv.bytesToString
            cases A with
            | none =>
              have := hA rfl
              subst this
              have : cs = [] := List.eq_nil_of_length_eq_zero hlen
              subst this
              simp only [List.flatten_nil, bytesE] at hl
              injection hl with hl
              subst hl
              exact ⟨_, rfl, .str rfl⟩
            | some a =>
              have h1 := hrun a rfl
              rw [Nat.mul_one] at h1
              have h2 := bytes_loop (P := P) cs.flatten vs l ByteArray.empty hv hl
              refine ⟨.string ⟨l.toArray⟩, ?_, .str rfl⟩
              simp only [Sem.run_bind, h1, Result.andThen_ok]
              have h3 : (forIn vs.toArray ByteArray.empty (fun c s => match c with
                  | .int .u8 n => pure (ForInStep.yield (s.push (UInt8.ofNat n.toNat)))
                  | _ => do
                    (stuck "bytesToString: byte expected" : Sem PUnit)
                    pure (ForInStep.yield s)) : Sem ByteArray).run P w = .ok ⟨l.toArray⟩ w := by
                rw [List.forIn_toArray, h2]
                congr 2
                rw [show ByteArray.empty.data = #[] from rfl]
                simp
              refine (congrArg (fun r => Result.andThen r (fun a w' => Sem.run P (pure (Value.string a)) w')) (?_ : _ = Result.ok (⟨l.toArray⟩ : ByteArray) w)).trans rfl
              exact h3
          · cases h
        · cases h
      · cases h
    · cases h
  · cases h
theorem scalar_key {t n : Nat} {v : Value} {e : Bool} (hs : scalarOf P t = true) : (Instr.checkKey e (n + 1) t v).run P w = .ok () w := by
  unfold scalarOf at hs
  unfold Instr.checkKey
  split at hs <;> first | (rename_i hu; simp only [Sem.run_bind, run_und hu, Result.andThen_ok]; rfl) | cases hs
theorem line_key {n : Nat} {e : Bool} {vs : List Value} : ∀ (fs : List Field) (k : Nat), lineOf P fs k = true → k + fs.length ≤ vs.length →
    (do
      for f in fs do
        if f.name ≠ "_" then Instr.checkKey e (n + 1) f.type (← part f.type vs.toArray f.offset) : Sem Unit).run P w = .ok () w
  | [], k, _, _ => rfl
  | f :: fs, k, hl, hk => by
    simp only [lineOf, Bool.and_eq_true, beq_iff_eq, bne_iff_ne] at hl
    obtain ⟨⟨⟨ho, hn⟩, hs⟩, hl⟩ := hl
    simp only [List.length_cons] at hk
    have hlt : f.offset < vs.length := by omega
    have p1 := run_part_cell (P := P) (w := w) hs (List.getElem?_eq_getElem hlt)
    have ih := line_key (n := n) (e := e) (vs := vs) fs (k + 1) hl (by omega)
    simp only [List.forIn_cons, ne_eq, hn, not_false_eq_true, if_true, Sem.run_bind, p1, Result.andThen_ok, scalar_key hs, Sem.run_pure]
    simp at ih
    simp [ih]
theorem elems_key {n t : Nat} {e : Bool} {vs : List Value} (hs : scalarOf P t = true) (hsz : (sizeOf t).run P w = .ok 1 w) : ∀ (m k : Nat), k + m ≤ vs.length →
    (do
      for i in List.range' k m do
        Instr.checkKey e (n + 1) t (← part t vs.toArray (i * (← sizeOf t))) : Sem Unit).run P w = .ok () w
  | 0, k, _ => rfl
  | m + 1, k, hk => by
    have hlt : k < vs.length := by omega
    have p1 := run_part_cell (P := P) (w := w) hs (List.getElem?_eq_getElem hlt)
    have ih := elems_key (n := n) (e := e) (vs := vs) hs hsz m (k + 1) (by omega)
    simp only [List.range'_succ, List.forIn_cons, Sem.run_bind, hsz, Nat.mul_one, p1, Result.andThen_ok, scalar_key hs, Sem.run_pure]
    simp at ih
    simp [ih]

theorem checkKey_ok {t : Nat} {k : EV} {kv : Value} {e : Bool} (hk : VR Fr w β k kv) (h : keyOk (tiOf P) t k = true) : (Instr.checkKey e 10000 t kv).run P w = .ok () w := by
  unfold keyOk at h
  split at h
  · rename_i ti ht
    obtain ⟨ut, sz, bytes, ag, zero, eq⟩ := ti
    have hT := tiOf_ok ht
    dsimp only at h
    split at h
    · have hu := hT.int
      unfold Instr.checkKey
      simp only [Sem.run_bind, run_und hu, Result.andThen_ok]
      rfl
    · have hu := hT.bool
      unfold Instr.checkKey
      simp only [Sem.run_bind, run_und hu, Result.andThen_ok]
      rfl
    · have hu := hT.string
      unfold Instr.checkKey
      simp only [Sem.run_bind, run_und hu, Result.andThen_ok]
      rfl
    · simp only [Bool.and_eq_true, beq_iff_eq] at h
      obtain ⟨gs, hg, _, _⟩ := hT.struct
      have he : eqOf P t = true := by rw [← hT.eq]; exact h.1
      unfold eqOf at he
      rw [hg] at he
      simp only [Bool.and_eq_true, Bool.not_eq_true', beq_iff_eq] at he
      cases hk with
      | agg hv =>
        rename_i cs vs
        have hl : gs.toList.length ≤ vs.length := by
          have h1 := hT.cellsOf
          have h2 := he.1.1.2
          have h3 := hv.length
          simp only at h1
          rw [Array.length_toList]
          omega
        unfold Instr.checkKey
        simp only [Sem.run_bind, run_und hg, Result.andThen_ok]
        have := line_key (P := P) (w := w) (n := 9998) (e := e) (vs := vs) gs.toList 0 he.1.1.1 (by omega)
        simp only [Sem.run_bind] at this
        simpa using this
    · simp only [Bool.and_eq_true, beq_iff_eq] at h
      have hg := hT.array
      have he : eqOf P t = true := by rw [← hT.eq]; exact h.1
      unfold eqOf at he
      rw [hg] at he
      simp only [Bool.and_eq_true, Bool.not_eq_true', beq_iff_eq] at he
      rename_i n e' cs
      cases hk with
      | agg hv =>
        rename_i vs
        have hl : n ≤ vs.length := by
          have h1 := hT.cellsOf
          have h2 := he.1.2
          have h3 := hv.length
          simp only at h1
          omega
        unfold Instr.checkKey
        have hsz : (sizeOf e').run P w = .ok 1 w := by
          have h1 := he.1.1.2
          unfold Program.cellsOf at h1
          cases hi : P.info? e' with
          | none => rw [hi] at h1; cases h1
          | some i => rw [run_sizeOf w hi, Program.cellsOf, hi, ← h1, hi]
        simp only [Sem.run_bind, run_und hg, Result.andThen_ok, hsz]
        have := elems_key (P := P) (w := w) (n := 9998) (e := e) (vs := vs) he.1.1.1 hsz n 0 (by omega)
        simp only [Sem.run_bind] at this
        simp only [Std.Legacy.Range.forIn_eq_forIn_range', Std.Legacy.Range.size, Nat.sub_zero, Nat.add_sub_cancel, Nat.div_one]
        simpa using this
    · cases h
  · cases h

/-- What is found: nothing, or a place and a value. -/
inductive Fnd (Fr : Nat → Nat → Prop) (w : World) (β : Bt) : Option (Nat × EV) → Option (Nat × Value) → Prop where
  | none : Fnd Fr w β none none
  | some {i e v} (h : VR Fr w β e v) : Fnd Fr w β (some (i, e)) (some (i, v))

theorem asking_ok {kt : Nat} {k : EV} {kv : Value} (hk : VR Fr w β k kv) : ∀ (es : List (EV × EV)) (ents : List MapEntry) (i : Nat) (r : Option (Nat × EV)), VRs Fr w β (es.map (·.1)) (ents.map (·.key)) → VRs Fr w β (es.map (·.2)) (ents.map (·.val)) →
    findE (tiOf P) kt k es i = some r → ∃ r', (Instr.findAsking kt kv ents i).run P w = .ok r' w ∧ Fnd Fr w β r r'
  | [], ents, i, r, h1, h2, h => by
    cases ents with
    | nil => simp only [findE] at h; injection h with h; subst h; exact ⟨none, rfl, .none⟩
    | cons e ents => simp at h1; cases h1
  | e :: es, ents, i, r, h1, h2, h => by
    cases ents with
    | nil => simp at h1; cases h1
    | cons n ents =>
      simp only [List.map_cons] at h1 h2
      cases h1 with
      | cons hk1 h1 => cases h2 with
        | cons hv2 h2 =>
          simp only [findE] at h
          unfold Instr.findAsking
          simp only [Sem.run_bind]
          split at h
          · rename_i he
            injection h with h
            subst h
            rw [equal_ok hk hk1 he]
            exact ⟨_, rfl, .some hv2⟩
          · rename_i he
            rw [equal_ok hk hk1 he]
            simp only [Result.andThen_ok, Bool.false_eq_true, if_false]
            exact asking_ok hk es ents (i + 1) r h1 h2 h
          · cases h
theorem now_ok {kt : Nat} {d : TypeDesc} {k : EV} {kv : Value} (hd : P.underlying kt = some d) (hk : VR Fr w β k kv) : ∀ (es : List (EV × EV)) (ents : List MapEntry) (i : Nat) (r : Option (Nat × EV)) (q : Option (Nat × Value)), VRs Fr w β (es.map (·.1)) (ents.map (·.key)) → VRs Fr w β (es.map (·.2)) (ents.map (·.val)) →
    findE (tiOf P) kt k es i = some r → Instr.findNow d kv ents i = some q → Fnd Fr w β r q
  | [], ents, i, r, q, h1, h2, h, hq => by
    cases ents with
    | nil => simp only [findE] at h; injection h with h; subst h; simp only [Instr.findNow] at hq; injection hq with hq; subst hq; exact .none
    | cons e ents => simp at h1; cases h1
  | e :: es, ents, i, r, q, h1, h2, h, hq => by
    cases ents with
    | nil => simp at h1; cases h1
    | cons n ents =>
      simp only [List.map_cons] at h1 h2
      cases h1 with
      | cons hk1 h1 => cases h2 with
        | cons hv2 h2 =>
          simp only [findE] at h
          simp only [Instr.findNow] at hq
          have key : ∀ b b', eqE (tiOf P) kt k e.1 = some b → Instr.sameNow d kv n.key = some b' → b = b' := by
            intro b b' hb hb'
            have hq := equal_ok hk hk1 hb
            generalize n.key = kn at *
            unfold Op.equal Op.maxDepth Op.equalIn at hq
            simp only [Sem.run_bind, run_und hd, Result.andThen_ok] at hq
            unfold Instr.sameNow at hb'
            clear hk hk1 hb hd
            split at hb'
            · split at hb'
              · rename_i hkk
                injection hb' with hb'
                rw [← hb']
                simp only [if_pos hkk, Sem.run_pure] at hq
                injection hq with hq
                exact hq.symm
              · cases hb'
            · injection hb' with hb'
              rw [← hb']
              simp only [Sem.run_pure] at hq
              injection hq with hq
              exact hq.symm
            · injection hb' with hb'
              rw [← hb']
              simp only [Sem.run_pure] at hq
              injection hq with hq
              exact hq.symm
            · cases hb'
          split at h
          · rename_i he
            injection h with h
            subst h
            split at hq
            · injection hq with hq
              subst hq
              exact .some hv2
            · rename_i hn; have := key _ _ he hn; cases this
            · cases hq
          · rename_i he
            split at hq
            · rename_i hn; have := key _ _ he hn; cases this
            · exact now_ok hd hk es ents (i + 1) r q h1 h2 h hq
            · cases hq
          · cases h

end
end Go.Ev
end
