/- The evaluator E: append, []byte(s). -/
import Derived.Test.YtkenfmphlggmcaaDoorQ3

section
namespace Go.Ev
open Go
set_option linter.unusedSimpArgs false
set_option linter.unusedVariables false

section
variable {P : Program} {Fr : Nat → Nat → Prop} {w w' : World} {β : Bt} {H : Heap}

theorem Ok.drew (hr : Rel Fr β H w) (d : Nat) : Ok Fr β H w Fr β H { w with drawn := d } where
  rel := by
    have hmono : ∀ {es : List EV} {vs : List Value}, VRs Fr w β es vs → VRs Fr { w with drawn := d } β es vs := fun h => h.mono (w := w) (w' := { w with drawn := d }) (fun _ _ h => h) (fun _ _ h => h) (fun _ _ _ => ⟨rfl, fun _ _ h => h⟩) (fun _ rc _ _ h => ⟨rc, h, rfl⟩)
    exact ⟨hr.len, fun o cs b s ho hb => by
      obtain ⟨rc, t, fr, vs, h1, h2, h3⟩ := hr.cells o cs b s ho hb
      exact ⟨rc, t, fr, vs, h1, hmono h2, h3⟩, fun o es b s ho hb => by
      obtain ⟨ents, c, h1, h2, h3⟩ := hr.maps o es b s ho hb
      exact ⟨ents, c, h1, hmono h2, hmono h3⟩, hr.tips, hr.live, hr.free, hr.inj, hr.old⟩
  ext := fun _ _ h => h
  ext' := fun _ h => h
  fr := fun _ _ h => h
  stp := ⟨rfl, rfl, rfl, Nat.le_refl _, fun _ rc _ _ h => ⟨rc, h, rfl⟩, fun _ _ _ => rfl, fun _ _ _ _ => rfl⟩
  im := fun _ _ h => h
  imc := fun _ _ _ h => h
  frn := fun _ _ _ h => .inl h

theorem Ok.kill (hr : Rel Fr β H w) {o b s : Nat} (hb : β[o]? = some (some (b, s))) (ha : alive H o) : Ok Fr β H w Fr β (H.set o .dead) w := by
  have hlt := hr.live o b s hb ha
  obtain ⟨x, hx, hn⟩ := ha
  exact Ok.turn hr hb ⟨x, hx, hn, fun _ _ => rfl⟩ (fun m e => by cases e) rfl (Array.getElem?_eq_getElem hlt) (fun _ _ => rfl) (fun rc t fr h => by rw [Array.getElem?_eq_getElem hlt] at h; injection h with h; exact ⟨rc, h, rfl⟩) (fun _ => rfl) rfl rfl rfl (fun cs e => by cases e) (fun es e => by cases e)

/-- An object under a new name, in the same block; cells that it had may stay from now on. -/
theorem Ok.renew (hr : Rel Fr β H w) {Fr' : Nat → Nat → Prop} {o b s s' : Nat} {x0 ob : EO} {rc : Array Value} {t : TypeId} {fr : Nat × Nat} (ho : H[o]? = some x0) (hb : β[o]? = some (some (b, s))) (hnd : x0 ≠ .dead) (hd : ob ≠ .dead)
    (hrc : w.heap[b]? = some (Obj.cells rc t fr)) (hob : ∀ x, ob.owns s' x → x0.owns s x) (hF : ∀ k x, Fr' k x → Fr k x ∨ k = b ∧ x0.owns s x) (hFF : ∀ k x, Fr k x → Fr' k x) (hfree : ∀ x, ob.owns s' x → ¬ Fr' b x)
    (hsz : w'.heap.size = w.heap.size) (hnew : ∃ rc' : Array Value, w'.heap[b]? = some (Obj.cells rc' t fr) ∧ rc'.size = rc.size) (hold : ∀ k, k ≠ b → w'.heap[k]? = w.heap[k]?) (hcell : ∀ x, ¬ x0.owns s x → w'.cell? ⟨b, x, none⟩ = w.cell? ⟨b, x, none⟩)
    (hos : w'.os = w.os) (ht : w'.tape = w.tape) (hp : w'.output = w.output)
    (hc : ∀ cs, ob = .cells cs → ∃ (rc : Array Value) (vs : List Value), w'.heap[b]? = some (.cells rc t fr) ∧ VRs Fr w β cs vs ∧ ∀ (j : Nat) (v : Value), vs[j]? = some v → rc[s' + j]? = some v ∧ ¬ (fr.1 ≤ s' + j ∧ s' + j < fr.2)) (hm : ∀ es, ob ≠ .map es) :
    Ok Fr β H w Fr' (β ++ [some (b, s')]) (H.set o .dead ++ [ob]) w' := by
  have ha : alive H o := ⟨_, ho, hnd⟩
  have hl := hr.len
  have holt : o < H.length := (List.getElem?_eq_some_iff.1 ho).1
  obtain ⟨rc', hn1, hn2⟩ := hnew
  have hext : ∀ (o' : Nat) (x : Nat × Nat), β[o']? = some (some x) → (β ++ [some (b, s')])[o']? = some (some x) := fun o' x h => ext_app h
  have hlive : ∀ (o' b' s2 : Nat) (x : EO), (β ++ [some (b, s')])[o']? = some (some (b', s2)) → (H.set o .dead ++ [ob])[o']? = some x → x ≠ .dead → (o' = H.length ∧ b' = b ∧ s2 = s' ∧ x = ob) ∨ (o' < H.length ∧ o' ≠ o ∧ β[o']? = some (some (b', s2)) ∧ H[o']? = some x) := by
    intro o' b' s2 x h hx hn
    rcases grown_at (by simp [hl]) h hx with ⟨h1, h2, h3, h4⟩ | ⟨h1, h2, h3⟩
    · exact .inl ⟨by simpa using h1, h2, h3, h4⟩
    · rw [List.getElem?_set] at h3
      by_cases e : o = o'
      · subst e
        rw [if_pos rfl, if_pos holt] at h3
        injection h3 with h3
        exact absurd h3.symm hn
      · rw [if_neg e] at h3
        exact .inr ⟨by simpa using h1, fun e' => e e'.symm, h2, h3⟩
  have himc : ∀ k x, ImC (β ++ [some (b, s')]) (H.set o .dead ++ [ob]) k x → ImC β H k x := by
    rintro k x ⟨o', s2, y, h1, h2, h3⟩
    rcases hlive o' k s2 y h1 h2 (fun e => by subst e; exact h3) with ⟨_, rfl, rfl, rfl⟩ | ⟨_, _, h4, h5⟩
    · exact ⟨o, s, x0, hb, ho, hob x h3⟩
    · exact ⟨o', s2, y, h4, h5, h3⟩
  have hC : ∀ k x, ¬ ImC β H k x → w'.cell? ⟨k, x, none⟩ = w.cell? ⟨k, x, none⟩ := fun k x hn => by
    by_cases e : k = b
    · subst e; exact hcell x (fun h => hn ⟨o, s, x0, hb, ho, h⟩)
    · exact cell_block (hold k e) x
  have hK : Keep Fr w w' := fun k x hk => by
    refine ⟨hC k x (fun hi => hr.free k x hi hk), fun ents clock h => ?_⟩
    by_cases e : k = b
    · subst e; rw [hrc] at h; cases h
    · exact (hold k e).trans h
  have hSh : Shape w w' := fun k rc1 t1 fr1 hk => by
    by_cases e : k = b
    · subst e
      rw [hrc] at hk
      injection hk with hk
      injection hk with e1 e2 e3
      subst e1; subst e2; subst e3
      exact ⟨rc', hn1, hn2⟩
    · exact ⟨rc1, (hold k e).trans hk, rfl⟩
  have mono : ∀ {es : List EV} {vs : List Value}, VRs Fr w β es vs → VRs Fr' w' (β ++ [some (b, s')]) es vs := fun h => h.mono hext hFF hK hSh
  have hblt := hr.live o b s hb ha
  refine ⟨⟨by simp [hl], ?_, ?_, ?_, ?_, ?_, ?_, ?_⟩, hext, fun o h => ext_app h, hFF, ⟨hos, ht, hp, by omega, hSh, fun k _ hn => hold k (fun e => hn ⟨o, s, e ▸ hb, ha⟩), fun k x _ hn => hC k x hn⟩, ?_, fun k x _ h => himc k x h, fun k x _ hf => by
    rcases hF k x hf with h | ⟨rfl, h⟩
    · exact .inl h
    · exact .inr ⟨o, s, x0, hb, ho, h⟩⟩
  · intro o' cs b' s2 h hb'
    rcases hlive o' b' s2 _ hb' h (by simp) with ⟨rfl, rfl, rfl, e⟩ | ⟨h1, h2, h3, h4⟩
    · obtain ⟨rc2, vs, h5, h6, h7⟩ := hc cs e.symm
      exact ⟨rc2, t, fr, vs, h5, mono h6, h7⟩
    · obtain ⟨rc2, t2, fr2, vs, hh, hv, hcc⟩ := hr.cells o' cs b' s2 h4 h3
      have : b' ≠ b := fun e => by subst e; exact h2 (hr.inj o' o _ _ _ h3 hb ⟨_, h4, by simp⟩ ha)
      exact ⟨rc2, t2, fr2, vs, (hold _ this).trans hh, mono hv, hcc⟩
  · intro o' es b' s2 h hb'
    rcases hlive o' b' s2 _ hb' h (by simp) with ⟨rfl, rfl, rfl, e⟩ | ⟨h1, h2, h3, h4⟩
    · exact absurd e.symm (hm es)
    · obtain ⟨ents, c, hh, hv1, hv2⟩ := hr.maps o' es b' s2 h4 h3
      have : b' ≠ b := fun e => by subst e; exact h2 (hr.inj o' o _ _ _ h3 hb ⟨_, h4, by simp⟩ ha)
      exact ⟨ents, c, (hold _ this).trans hh, mono hv1, mono hv2⟩
  · intro o' m b' s2 h hb'
    rcases hlive o' b' s2 _ hb' h (by simp) with ⟨rfl, rfl, rfl, e⟩ | ⟨h1, h2, h3, h4⟩
    · exact ⟨rc', t, fr, hn1⟩
    · obtain ⟨rc2, t2, fr2, hh⟩ := hr.tips o' m b' s2 h4 h3
      have : b' ≠ b := fun e => by subst e; exact h2 (hr.inj o' o _ _ _ h3 hb ⟨_, h4, by simp⟩ ha)
      exact ⟨rc2, t2, fr2, (hold _ this).trans hh⟩
  · rintro o' b' s2 hb' ⟨x, hx, hn⟩
    rcases hlive o' b' s2 x hb' hx hn with ⟨_, rfl, _⟩ | ⟨_, _, h3, h4⟩
    · omega
    · have := hr.live o' b' s2 h3 ⟨x, h4, hn⟩; omega
  · rintro k x ⟨o', s2, y, h1, h2, h3⟩ hf
    rcases hlive o' k s2 y h1 h2 (fun e => by subst e; exact h3) with ⟨_, rfl, rfl, rfl⟩ | ⟨_, h6, h4, h5⟩
    · exact hfree x h3 hf
    · rcases hF k x hf with hf | ⟨rfl, _⟩
      · exact hr.free k x ⟨o', s2, y, h4, h5, h3⟩ hf
      · exact h6 (hr.inj o' o _ _ _ h4 hb ⟨y, h5, fun e => by subst e; exact h3⟩ ha)
  · rintro o1 o2 b' s1 s2 h1 h2 ⟨y1, a1, n1⟩ ⟨y2, a2, n2⟩
    rcases hlive _ _ _ _ h1 a1 n1 with ⟨p1, rfl, _⟩ | ⟨p1, p2, p3, p4⟩ <;> rcases hlive _ _ _ _ h2 a2 n2 with ⟨q1, q2, _⟩ | ⟨q1, q2, q3, q4⟩
    · omega
    · exact absurd (hr.inj o2 o _ _ _ q3 hb ⟨_, q4, n2⟩ ha) q2
    · subst q2; exact absurd (hr.inj o1 o _ _ _ p3 hb ⟨_, p4, n1⟩ ha) p2
    · exact hr.inj o1 o2 _ _ _ p3 q3 ⟨_, p4, n1⟩ ⟨_, q4, n2⟩
  · intro k x hf
    rcases hF k x hf with hf | ⟨rfl, _⟩
    · have := hr.old k x hf; omega
    · omega
  · rintro k _ ⟨o', s2, h, ⟨x, hx, hn⟩⟩
    rcases hlive o' k s2 x h hx hn with ⟨_, rfl, _⟩ | ⟨_, _, h3, h4⟩
    · exact ⟨o, s, hb, ha⟩
    · exact ⟨o', s2, h3, x, h4, hn⟩

theorem first_ok (hr : Rel Fr β H w) {z : Nat} {x : EV} {xv : Value} {es : List (List EV)} (hx : VR Fr w β x xv) (h : sliceRows H z x = some es) :
    ∃ (A : Option Addr) (c : Nat) (vs : List Value), xv = .slice A es.length c ∧ (∀ e ∈ es, e.length = z) ∧ VRs Fr w β es.flatten vs ∧ ∀ d, (Builtin.firstCells z es.length xv).run P { w with drawn := d } = .ok vs.toArray { w with drawn := d } := by
  obtain ⟨A, n, c, vs, rfl, rfl, h0, h2, h3, h4⟩ := sliceRows_ok (P := P) hr hx h
  refine ⟨A, c, vs, rfl, h0, h2, ?_⟩
  cases A with
  | none =>
    have hn := h3 rfl
    have : es = [] := List.length_eq_zero_iff.1 hn
    subst this
    cases h2
    intro d
    rfl
  | some a => exact h4 a rfl

theorem growBy_le (m : Nat) : ∀ (r c : Nat), 256 ≤ c → c ≤ 2 * m → Builtin.growBy m r c ≤ 2 * m := by
  intro r
  induction r with
  | zero => intro c _ h; exact h
  | succ r ih =>
    intro c h1 h2
    simp only [Builtin.growBy]
    split
    · exact h2
    · exact ih _ (by omega) (by omega)
theorem nextslicecap_le {m o : Nat} (h : o < m) : Builtin.nextslicecap m o ≤ 2 * m := by
  unfold Builtin.nextslicecap
  split
  · omega
  · split
    · omega
    · exact growBy_le _ _ _ (by omega) (by omega)

section
variable {ts : Array TypeId} {ty st xt e z m n c : Nat} {A : Option Addr} {xv : Value} {d : TypeDesc} {xs : Array Value}

theorem append_in (h0 : ts[0]? = some st) (h1 : ts[1]? = some xt) (hu : P.underlying st = some (.slice e)) (hxu : P.underlying xt = some d) (hd : ∀ k, d ≠ .int k) (hz : ∀ w, (sizeOf e).run P w = .ok z w)
    (hn : (Builtin.lenOf xv).run P w = .ok m w) (hx : (Builtin.firstCells z m xv).run P w = .ok xs w) (hc : n + m ≤ c) :
    (Builtin.append_ ts ty #[.slice A n c, xv]).run P w = (match A with | some a => (storeCells (a.add (n * z)) xs.toList).run P w | none => .ok () w).andThen fun _ w' => .ok (.slice A (n + m) c) w' := by
  have hint : (match d with | .int _ => true | _ => false) = false := by cases d <;> first | rfl | exact absurd rfl (hd _)
  unfold Builtin.append_
  simp only [h0, h1, List.getElem?_toArray, List.getElem?_cons_zero, List.getElem?_cons_succ, Sem.run_bind, run_und hu, run_und hxu, Result.andThen_ok, hz, Sem.run_pure, hint, Bool.false_eq_true, if_false, hn, Bool.not_false, if_true]
  rw [if_pos hc]
  simp only [Sem.run_bind, hx, Result.andThen_ok]
  cases A with
  | none => simp
  | some a => simp only [Sem.run_bind, Sem.run_pure]

theorem append_new {inf : TypeInfo} {zv : Value} {old : Array Value} (h0 : ts[0]? = some st) (h1 : ts[1]? = some xt) (hu : P.underlying st = some (.slice e)) (hxu : P.underlying xt = some d) (hd : ∀ k, d ≠ .int k) (hz : ∀ w, (sizeOf e).run P w = .ok z w)
    (hn : (Builtin.lenOf xv).run P w = .ok m w) (hinf : ∀ w, (typeInfo e).run P w = .ok inf w) (hzv : ∀ w, (zeroValue e).run P w = .ok zv w) (hb : (n + m) * (inf.bytes + 1) ≤ 35184372088832) (hc : ¬ n + m ≤ c)
    (ho : (Builtin.firstCells z n (.slice A n c)).run P { w with drawn := w.drawn + 1 } = .ok old { w with drawn := w.drawn + 1 }) (hx : (Builtin.firstCells z m xv).run P { w with drawn := w.drawn + 1 } = .ok xs { w with drawn := w.drawn + 1 }) :
    ∃ k, n + m ≤ k ∧ (Builtin.append_ ts ty #[.slice A n c, xv]).run P w = .ok (.slice (some ⟨w.heap.size, 0, none⟩) (n + m) k) { w with drawn := w.drawn + 1, heap := w.heap.push (.cells (old ++ xs ++ Builtin.zeroCells zv.cells (k - (n + m))) e) } := by
  have hint : (match d with | .int _ => true | _ => false) = false := by cases d <;> first | rfl | exact absurd rfl (hd _)
  have hb1 : n + m ≤ 35184372088832 := Nat.le_trans (by rw [Nat.mul_add]; omega) hb
  have hb2 : (n + m) * inf.bytes ≤ 35184372088832 := Nat.le_trans (by rw [Nat.mul_add]; omega) hb
  have hb3 : ¬ Builtin.nextslicecap (n + m) c * inf.bytes > 2 ^ 48 := by
    have h3 := Nat.mul_le_mul_right inf.bytes (nextslicecap_le (m := n + m) (o := c) (by omega))
    rw [Nat.mul_assoc] at h3
    omega
  refine ⟨(Question.appendCap (n + m) c e).cut (w.tape w.drawn (.appendCap (n + m) c e)), by simp [Question.cut], ?_⟩
  unfold Builtin.append_
  simp only [h0, h1, List.getElem?_toArray, List.getElem?_cons_zero, List.getElem?_cons_succ, Sem.run_bind, run_und hu, run_und hxu, Result.andThen_ok, hz, Sem.run_pure, hint, Bool.false_eq_true, if_false, hn, Bool.not_false, if_true]
  rw [if_neg hc]
  simp only [Sem.run_bind, Sem.run_pure, hinf, Result.andThen_ok, Sem.run_ite]
  rw [if_neg (by simp [IntKind.max, IntKind.bits, IntKind.signed]; omega), if_neg hb3]
  simp only [run_choose, Question.forced, Bool.false_eq_true, if_false, Result.andThen_ok, hinf, run_askRoom, ho, hx, hzv, newRow, run_newObj, Sem.run_bind, Sem.run_pure]
end

theorem zeroCells_size (z : Array Value) (n : Nat) : (Builtin.zeroCells z n).size = n * z.size := by simp [Builtin.zeroCells]

theorem bytes_VRs (l : List UInt8) : VRs Fr w β (l.map fun c => [EV.int .u8 c.toNat]).flatten (l.map fun c => Value.int .u8 c.toNat) := by
  induction l with
  | nil => exact .nil
  | cons a l ih => exact .cons .int ih

/-- What is added. -/
theorem news_ok (hr : Rel Fr β H w) {xt z : Nat} {tx : TI} {x : EV} {xv : Value} {xs : List (List EV)} (hx : VR Fr w β x xv) (htx : tiOf P xt = some tx) (hn : newsE H z tx x = some xs) :
    (∃ d, P.underlying xt = some d ∧ ∀ k, d ≠ .int k) ∧ (∀ e ∈ xs, e.length = z) ∧ (Builtin.lenOf xv).run P w = .ok xs.length w ∧ ∃ vs : List Value, VRs Fr w β xs.flatten vs ∧ ∀ d, (Builtin.firstCells z xs.length xv).run P { w with drawn := d } = .ok vs.toArray { w with drawn := d } := by
  obtain ⟨ut, sz, bytes, ag, zero, eq⟩ := tx
  unfold newsE at hn
  simp only at hn
  split at hn
  · refine ⟨⟨_, (tiOf_ok htx).string, fun k e => by cases e⟩, ?_⟩
    split at hn
    · rename_i b
      split at hn
      · rename_i hz
        subst hz
        injection hn with hn
        subst hn
        cases hx with
        | str hb =>
          rename_i b'
          subst hb
          refine ⟨by simp, by simp [Builtin.lenOf], _, bytes_VRs _, fun d => ?_⟩
          simp only [Builtin.firstCells, Sem.run_pure]
          congr 1
          have : (b'.extract 0 (b'.data.toList.map fun c => [EV.int .u8 c.toNat]).length).data = b'.data := by simp [ByteArray.data_extract]
          rw [this, ← Array.toList_map]
      · cases hn
    · cases hn
  · refine ⟨⟨_, (tiOf_ok htx).slice, fun k e => by cases e⟩, ?_⟩
    obtain ⟨A, c, vs, rfl, h1, h2, h3⟩ := first_ok (P := P) hr hx hn
    exact ⟨h1, rfl, vs, h2, h3⟩
  · cases hn

theorem take_app {α : Type} (a b c : List α) (n : Nat) (h : n = a.length + b.length) : (a ++ b ++ c).take n = a ++ b := by
  rw [List.take_append_of_le_length (by simp; omega), List.take_of_length_le (by simp; omega)]
theorem flat_length {α : Type} {z : Nat} : ∀ (es : List (List α)), (∀ e ∈ es, e.length = z) → es.flatten.length = es.length * z
  | [], _ => by simp
  | e :: es, h => by
    rw [List.flatten_cons, List.length_append, flat_length es (fun x hx => h x (by simp [hx])), h e (by simp), List.length_cons, Nat.succ_mul, Nat.add_comm]

section
variable {ts : Array TypeId} {ty st xt e n c : Nat} {te : TI} {A : Option Addr} {xv : Value} {d : TypeDesc} {os xs : List EV} {ov vs : List Value} {m : Nat}

/-- An append that makes a new row: the world. -/
theorem grow_run (hr : Rel Fr β H w) (h0 : ts[0]? = some st) (h1 : ts[1]? = some xt) (hu : P.underlying st = some (.slice e)) (hxu : P.underlying xt = some d) (hd : ∀ k, d ≠ .int k) (hte : tiOf P e = some te)
    (hn : (Builtin.lenOf xv).run P w = .ok m w) (hb : roomy te (n + m) = true) (hc : ¬ n + m ≤ c) (hol : ov.length = n * te.sz) (hxl : vs.length = m * te.sz)
    (ho : ∀ d, (Builtin.firstCells te.sz n (.slice A n c)).run P { w with drawn := d } = .ok ov.toArray { w with drawn := d }) (hx : ∀ d, (Builtin.firstCells te.sz m xv).run P { w with drawn := d } = .ok vs.toArray { w with drawn := d }) :
    ∃ (k : Nat) (rc : Array Value), n + m ≤ k ∧ rc.size = k * te.sz ∧ rc.toList.take ((n + m) * te.sz) = ov ++ vs ∧ (Builtin.append_ ts ty #[.slice A n c, xv]).run P w = .ok (.slice (some ⟨w.heap.size, 0, none⟩) (n + m) k) { w with drawn := w.drawn + 1, heap := w.heap.push (.cells rc e) } := by
  obtain ⟨inf, zv, hi, hs, hby, hz, hcz, hl, hag⟩ := (tiOf_ok hte).info
  have hzs : zv.cells.size = te.sz := by have := (ofCs_VR (Fr := Fr) (w := w) (β := β) hcz).length; simp at this; omega
  obtain ⟨k, hk, hrun⟩ := append_new (P := P) (w := w) (ty := ty) (xs := vs.toArray) (old := ov.toArray) (inf := inf) (zv := zv) (z := te.sz) h0 h1 hu hxu hd (fun w => (tiOf_ok hte).size w) hn (fun w => run_typeInfo w hi)
    (fun w => by unfold zeroValue; simp only [Sem.run_bind, run_typeInfo w hi, Result.andThen_ok, hz]; rfl) (by rw [hby]; simpa [roomy] using hb) hc (ho _) (hx _)
  refine ⟨k, _, hk, ?_, ?_, hrun⟩
  · simp only [Array.size_append, List.size_toArray, zeroCells_size, hzs, hol, hxl]
    rw [← Nat.add_mul, ← Nat.add_mul]
    congr 1
    omega
  · rw [Array.toList_append, Array.toList_append]
    simp only []
    exact take_app _ _ _ _ (by rw [hol, hxl, Nat.add_mul])
end

theorem Held.app {b s : Nat} {vs us : List Value} (h : Held Fr w b s vs) (k : Held Fr w b (s + vs.length) us) : Held Fr w b s (vs ++ us) := fun j v hj => by
  by_cases hlt : j < vs.length
  · rw [List.getElem?_append_left hlt] at hj
    exact h j v hj
  · rw [List.getElem?_append_right (by omega)] at hj
    have := k (j - vs.length) v hj
    rwa [show s + vs.length + (j - vs.length) = s + j by omega] at this

theorem mapO_rows {ys : List (List EV)} : ∀ {xs : List (List EV)} {vs : List Value}, mapO (mapO still) xs = some ys → VRs Fr w β xs.flatten vs → VRs Fr w [] ys.flatten vs ∧ ys.length = xs.length ∧ ∀ z, (∀ e ∈ xs, e.length = z) → ∀ e ∈ ys, e.length = z := by
  induction ys with
  | nil =>
    intro xs vs h hv
    cases xs with
    | nil => cases hv; exact ⟨.nil, rfl, by simp⟩
    | cons x xs =>
      simp only [mapO] at h
      split at h
      · cases h
      · cases h
  | cons y ys ih =>
    intro xs vs h hv
    cases xs with
    | nil => simp [mapO] at h
    | cons x xs =>
      simp only [mapO] at h
      split at h
      · rename_i y' ys' h1 h2
        injection h with h
        injection h with e1 e2
        subst e1; subst e2
        rw [List.flatten_cons] at hv
        have hx := hv.take x.length
        have hxs := hv.drop x.length
        rw [List.take_left] at hx
        rw [List.drop_left] at hxs
        obtain ⟨h3, h4, h5⟩ := ih h2 hxs
        have h6 : VRs Fr w [] y' (vs.take x.length) := mapO_ok (fun _ _ _ _ h1 h2 => still_ok h1 h2) hx h1
        refine ⟨?_, by simp [h4], fun z hz e he => ?_⟩
        · have := h6.append h3
          rwa [List.take_append_drop] at this
        · simp only [List.mem_cons] at he
          rcases he with rfl | he
          · rw [mapO_length h1]; exact hz x (by simp)
          · exact h5 z (fun e he => hz e (by simp [he])) e he
      · cases h

theorem growE_ok (hr : Rel Fr β H w) {vm : Bool} {ts : Array TypeId} {ty st xt e : Nat} {te : TI} {d : TypeDesc} {s v : EV} {sv xv : Value} {xs : List (List EV)} {vs : List Value} {H' : Heap} {W : List Nat} (hs : VR Fr w β s sv)
    (h0 : ts[0]? = some st) (h1 : ts[1]? = some xt) (hu : P.underlying st = some (.slice e)) (hxu : P.underlying xt = some d) (hd : ∀ k, d ≠ .int k) (hte : tiOf P e = some te)
    (hlo : (Builtin.lenOf xv).run P w = .ok xs.length w) (hwd : ∀ r ∈ xs, r.length = te.sz) (hxv : VRs Fr w β xs.flatten vs) (hone : xs.flatten.all EV.one = true) (hpos : xs ≠ [])
    (hxd : ∀ d, (Builtin.firstCells te.sz xs.length xv).run P { w with drawn := d } = .ok vs.toArray { w with drawn := d }) (h : growE vm H te xs s = some (v, H', W)) :
    Does Fr β H w ((Builtin.append_ ts ty #[sv, xv]).run P w) v H' := by
  have hsz : ∀ w, (sizeOf e).run P w = .ok te.sz w := fun w => (tiOf_ok hte).size w
  have hxr : (Builtin.firstCells te.sz xs.length xv).run P w = .ok vs.toArray w := hxd w.drawn
  have hxl : xs.flatten.length = xs.length * te.sz := flat_length xs hwd
  have hlx := hxv.length
  have hpl : 0 < xs.length := List.length_pos_iff.2 hpos
  -- a new row, of which a slice is a value
  have fresh : ∀ (es ys : List (List EV)) (ov : List Value) (k : Nat) (rc : Array Value), (∀ r ∈ es, r.length = te.sz) → VRs Fr w [] es.flatten ov → mapO (mapO still) xs = some ys → es.length + xs.length ≤ k → rc.size = k * te.sz → rc.toList.take ((es.length + xs.length) * te.sz) = ov ++ vs → ∀ {H1 : Heap}, Ok Fr β H w Fr β H1 w → H1.length = H.length →
      (Builtin.append_ ts ty #[sv, xv]).run P w = .ok (.slice (some ⟨w.heap.size, 0, none⟩) (es.length + xs.length) k) { w with drawn := w.drawn + 1, heap := w.heap.push (.cells rc e) } →
      Does Fr β H w ((Builtin.append_ ts ty #[sv, xv]).run P w) (.fz (es ++ ys) (.tok H.length)) (H1 ++ [.tip ((es.length + xs.length) * te.sz)]) := by
    intro es ys ov k rc hez hov hys hk hrs htk H1 hok1 hl1 hrun
    have hdr := hok1.trans (Ok.drew hok1.rel (w.drawn + 1))
    have hnew := Ok.new (w' := { w with drawn := w.drawn + 1, heap := w.heap.push (.cells rc e) }) (ob := .tip ((es.length + xs.length) * te.sz)) (obj := .cells rc e) (Fr' := fun b x => Fr b x ∨ (b = w.heap.size ∧ ¬ EO.owns (.tip ((es.length + xs.length) * te.sz)) 0 x)) hdr.rel (fun _ _ => Iff.rfl) rfl rfl rfl rfl (fun cs e => by cases e) (fun cs e => by cases e) (fun m _ => ⟨rc, e, (0, 0), rfl⟩) (by simp)
    have hok := hdr.trans hnew
    obtain ⟨g1, g2, g3⟩ := mapO_rows hys hxv
    have hov' := hov.mono (β' := []) (fun _ _ h => h) hok.fr (hok.keeps hr) hok.stp.shape
    have hys' := g1.mono (β' := []) (fun _ _ h => h) hok.fr (hok.keeps hr) hok.stp.shape
    have hlo2 := hov.length
    have hle := flat_length es hez
    refine ⟨_, _, _, _, hrun, hok, .fz (s := 0) (z := te.sz) (vs := ov ++ vs) (by rw [List.flatten_append]; exact hov'.append hys') (fun r hr => ?_) (fun j u hj => ?_) (by simp [g2]) hk (fun e => by cases e) (fun o e => ?_)⟩
    · rcases List.mem_append.1 hr with hr | hr
      · exact hez r hr
      · exact g3 _ hwd r hr
    · rw [← htk, List.getElem?_take] at hj
      split at hj
      · rename_i hlt
        refine ⟨.inr ⟨rfl, by simp [EO.owns]; omega⟩, ?_⟩
        simp only [World.cell?, Nat.zero_add, Array.getElem?_push_size, Option.isSome_none, Bool.false_eq_true, if_false]
        simpa using hj
      · cases hj
    · injection e with e
      subst e
      refine ⟨fun hn => ?_, by rw [← hl1]; exact new_at hok1.rel _, rc, e, (0, 0), by simp, by omega, fun y _ _ => by simp⟩
      have := congrArg List.length hn
      simp only [List.length_append, List.length_nil] at this
      omega
  -- a new row, which is an object
  have object : ∀ (os : List EV) (ov : List Value) (n k : Nat) (rc : Array Value), os.length = n * te.sz → VRs Fr w β os ov → n + xs.length ≤ k → rc.size = k * te.sz → rc.toList.take ((n + xs.length) * te.sz) = ov ++ vs → ∀ {H1 : Heap}, Ok Fr β H w Fr β H1 w → H1.length = H.length →
      (Builtin.append_ ts ty #[sv, xv]).run P w = .ok (.slice (some ⟨w.heap.size, 0, none⟩) (n + xs.length) k) { w with drawn := w.drawn + 1, heap := w.heap.push (.cells rc e) } →
      Does Fr β H w ((Builtin.append_ ts ty #[sv, xv]).run P w) (.sl H.length 0 (n + xs.length) te.sz none) (H1 ++ [.cells (os ++ xs.flatten)]) := by
    intro os ov n k rc hol hov hk hrs htk H1 hok1 hl1 hrun
    have h5 := hok1.trans (Ok.drew hok1.rel (w.drawn + 1))
    obtain ⟨hok, hvr⟩ := Ok.newSlice (w := { w with drawn := w.drawn + 1 }) h5.rel (cs := os ++ xs.flatten) (rc := rc) e (n + xs.length) te.sz k none (by
      rw [List.length_append, hol, hxl, ← Nat.add_mul, htk]
      exact (h5.vrs hr hov).append (h5.vrs hr hxv)) hk (fun c hc => by cases hc) (by omega)
    exact ⟨_, _, _, _, hrun, h5.trans hok, by rw [← hl1]; exact hvr⟩
  unfold growE at h
  split at h
  · -- only read, no room
    rename_i es
    split at h
    · rename_i hcond
      obtain ⟨A, c, ov, rfl, g1, g2, g3⟩ := first_ok (P := P) (z := te.sz) hr hs (by simp only [sliceRows]; rw [if_pos hcond.1])
      have hcn : c = es.length := by
        cases hs with
        | fz0 ht => exact ht rfl
        | fz _ _ _ _ _ ht _ => exact ht rfl
      have hle := flat_length es g1
      have hlo2 := g2.length
      obtain ⟨k, rc, r1, r2, r3, r4⟩ := grow_run (ty := ty) hr h0 h1 hu hxu hd hte hlo hcond.2 (by omega) (by omega) (by omega) g3 hxd
      split at h
      · split at h
        · rename_i ys hys
          injection h with h
          injection h with h h'
          injection h' with h' _
          subst h; subst h'
          refine fresh es ys ov k rc g1 ?_ hys r1 r2 r3 (Ok.refl hr) rfl r4
          cases hs with
          | fz0 _ _ => cases g2; exact .nil
          | fz a b c' d e' f g =>
            rename_i us _ _ _
            have : us = ov := by
              have h2 := g3 w.drawn
              have h3 := run_cells (P := P) (w := { w with drawn := w.drawn }) (i := 0) (n := es.length * te.sz) (fun j v hj => (c' j v hj).2) (by have := a.length; omega)
              simp only [Nat.add_zero, List.drop_zero] at h3
              simp only [Builtin.firstCells] at h2
              rw [h2] at h3
              injection h3 with h3
              have h4 := congrArg Array.toList h3
              simp only [] at h4
              rw [h4, List.take_of_length_le (by have := a.length; omega)]
            rw [← this]
            exact a
        · cases h
      · injection h with h
        injection h with h h'
        injection h' with h' _
        subst h; subst h'
        exact object es.flatten ov es.length k rc hle g2 r1 r2 r3 (Ok.refl hr) rfl r4
    · cases h
  · -- a value that may grow
    rename_i es o
    split at h
    · rename_i hcond
      split at h
      · rename_i m ho
        split at h
        · rename_i hm
          split at h
          · rename_i ys hys
            injection h with h
            injection h with h h'
            injection h' with h' _
            subst h; subst h'
            have hs0 := hs
            cases hs with
            | fz0 _ hk => exact absurd rfl (hk o)
            | fz hv hz hc hl hn ht hk =>
              rename_i ov b s z n c
              subst hl
              obtain ⟨hne, hb, hroom⟩ := hk o rfl
              have hzz := rowsOk_len hcond.1 hz
              have hle := flat_length es hzz
              have hlo2 := hv.length
              obtain ⟨g1, g2, g3⟩ := mapO_rows hys hxv
              have hzt : z = te.sz := by
                cases es with
                | nil => exact absurd rfl hne
                | cons a es => rw [← hzz a (by simp), hz a (by simp)]
              subst hzt
              obtain ⟨rc, t, fr, q1, q2, q3⟩ := hroom
              by_cases hnc : es.length + xs.length ≤ c
              · -- in place
                have hmul : (es.length + xs.length) * te.sz = es.length * te.sz + xs.length * te.sz := Nat.add_mul ..
                have hle2 : (es.length + xs.length) * te.sz ≤ c * te.sz := Nat.mul_le_mul_right _ hnc
                obtain ⟨w', hrun, hw⟩ := run_storeCells (P := P) (b := b) (s := s + es.length * te.sz) vs 0 rc w q1 (by omega) (fun y y1 y2 => q3 y (by omega) (by omega)) (hxv.ones hone)
                obtain ⟨rc', p1, p2, p3⟩ := hw.blk
                have hok := Ok.renew (w' := w') (ob := .tip ((es.length + xs.length) * te.sz)) (s' := s) (Fr' := fun k x => Fr k x ∨ (k = b ∧ s + es.length * te.sz ≤ x ∧ x < s + (es.length + xs.length) * te.sz)) hr ho hb (by simp) (by simp) q1
                  (fun x hx => by simp only [EO.owns] at hx ⊢; omega) (fun k x hf => by
                    rcases hf with hf | ⟨h1, h2, h3⟩
                    · exact .inl hf
                    · exact .inr ⟨h1, by simp only [EO.owns]; omega⟩) (fun k x h => .inl h) (fun x hx hf => by
                    simp only [EO.owns] at hx
                    rcases hf with hf | ⟨h1, h2, h3⟩
                    · exact hr.free b x ⟨o, s, _, hb, ho, by simp only [EO.owns]; omega⟩ hf
                    · omega) hw.size ⟨rc', p1, p2⟩ hw.other (fun x hx => by
                    simp only [EO.owns] at hx
                    have := p3 x
                    rw [if_neg (by omega)] at this
                    simp only [World.cell?, p1, q1, this]) hw.os hw.tape hw.output (fun cs e => by cases e) (fun es e => by cases e)
                have hv' := hv.mono (β' := []) (fun _ _ h => h) hok.fr (hok.keeps hr) hok.stp.shape
                have hys' := g1.mono (β' := []) (fun _ _ h => h) hok.fr (hok.keeps hr) hok.stp.shape
                refine ⟨.slice (some ⟨b, s, none⟩) (es.length + xs.length) c, _, _, _, ?_, hok, .fz (s := s) (z := te.sz) (vs := ov ++ vs) (by rw [List.flatten_append]; exact hv'.append hys') (fun r hr => ?_) (Held.app (hc.mono hok.fr (hok.keeps hr)) (fun j u hj => ?_)) (by simp [g2]) hnc (fun e => by cases e) (fun o' e => ?_)⟩
                · rw [append_in h0 h1 hu hxu hd hsz hlo hxr hnc]
                  simp only [addr_add, hrun, Result.andThen_ok]
                · rcases List.mem_append.1 hr with hr | hr
                  · exact hzz r hr
                  · exact g3 _ hwd r hr
                · have hjl := (List.getElem?_eq_some_iff.1 hj).1
                  refine ⟨.inr ⟨rfl, by omega, by omega⟩, ?_⟩
                  have := p3 (s + ov.length + j)
                  rw [if_pos (by omega)] at this
                  simp only [World.cell?, p1, this]
                  rw [show s + ov.length + j - (s + es.length * te.sz + 0) = j by omega]
                  simpa using hj
                · injection e with e
                  subst e
                  refine ⟨fun hn => ?_, new_at hr _, Room.mono hok.stp.shape ⟨rc, t, fr, q1, q2, q3⟩⟩
                  have := congrArg List.length hn
                  simp only [List.length_append, List.length_nil] at this
                  omega
              · -- a new row: the old one's object is done with
                obtain ⟨A, c', ov', e1, g4, g5, g6⟩ := first_ok (P := P) (z := te.sz) hr hs0 (by simp only [sliceRows]; rw [if_pos hcond.1])
                injection e1 with e1 e2 e3
                subst e1; subst e3
                have hov : ov = ov' := by
                  have h2 := g6 w.drawn
                  have h3 := run_cells (P := P) (w := { w with drawn := w.drawn }) (i := 0) (n := es.length * te.sz) (fun j v hj => (hc j v hj).2) (by omega)
                  simp only [Nat.add_zero, List.drop_zero] at h3
                  simp only [Builtin.firstCells] at h2
                  rw [h2] at h3
                  injection h3 with h3
                  have h4 := congrArg Array.toList h3
                  simp only [] at h4
                  rw [h4, List.take_of_length_le (by omega)]
                subst hov
                obtain ⟨k, rc2, r1, r2, r3, r4⟩ := grow_run (ty := ty) hr h0 h1 hu hxu hd hte hlo hcond.2 hnc (by omega) (by omega) g6 hxd
                have := fresh es ys ov k rc2 hzz hv hys r1 r2 r3 (Ok.kill hr hb ⟨_, ho, by simp⟩) (by simp) r4
                exact this
          · cases h
        · cases h
      · cases h
    · cases h
  · -- its room is known
    rename_i o i n z c
    split at h
    · rename_i hz
      subst hz
      split at h
      · rename_i cs ho
        have hs0 := hs
        cases hs with
        | sl hb hn hc hrm =>
          rename_i b s k
          have hk : k = c := hc c rfl
          subst hk
          split at h
          · rename_i hnc
            split at h
            · rename_i hroom
              injection h with h
              injection h with h h'
              injection h' with h' _
              subst h; subst h'
              obtain ⟨rc, ty', fr, us, hh, hvs, hcc⟩ := hr.cells o cs b s ho hb
              have hlv := hvs.length
              have hrs : ∀ j, j < us.length → s + j < rc.size ∧ ¬ (fr.1 ≤ s + j ∧ s + j < fr.2) := fun j hj => by
                have := hcc j _ (List.getElem?_eq_getElem hj)
                exact ⟨(Array.getElem?_eq_some_iff.1 this.1).1, this.2⟩
              have hmul : (n + xs.length) * te.sz = n * te.sz + xs.length * te.sz := Nat.add_mul ..
              obtain ⟨w', hrun, hw⟩ : ∃ w', (storeCells ⟨b, s + i + n * te.sz, none⟩ vs).run P w = .ok () w' ∧ Wrote b (s + (i + n * te.sz)) vs rc ty' fr w w' := by
                by_cases hv0 : vs.length = 0
                · have : vs = [] := List.length_eq_zero_iff.1 hv0
                  subst this
                  exact ⟨w, rfl, ⟨rc, hh, rfl, fun x => by rw [if_neg (by simp only [List.length_nil]; omega)]⟩, fun _ _ => rfl, rfl, rfl, rfl, rfl⟩
                · obtain ⟨w', h5, h6⟩ := run_storeCells (P := P) (b := b) (s := s + i + n * te.sz) vs 0 rc w hh (by have := (hrs (i + n * te.sz + vs.length - 1) (by omega)).1; omega)
                    (fun y h1 h2 => by
                      have := (hrs (y - s) (by omega)).2
                      rw [show s + (y - s) = y by omega] at this
                      exact this) (hxv.ones hone)
                  exact ⟨w', h5, by rw [show s + (i + n * te.sz) = s + i + n * te.sz + 0 by omega]; exact h6⟩
              have hok := Ok.wrote hr ho hb hh hxv (by omega) hw
              refine ⟨.slice (some ⟨b, s + i, none⟩) (n + xs.length) k, _, _, _, ?_, hok, ?_⟩
              · rw [append_in h0 h1 hu hxu hd hsz hlo hxr hnc]
                simp only [addr_add, hrun, Result.andThen_ok]
              · exact hok.vr hr (.sl hb hnc (fun k hk => by injection hk) hrm)
            · cases h
          · rename_i hnc
            split at h
            · rename_i hcond
              injection h with h
              injection h with h h'
              injection h' with h' _
              subst h; subst h'
              obtain ⟨A, c', ov, e1, g1, g2, g3⟩ := first_ok (P := P) (z := te.sz) (es := chunk te.sz n (cs.drop i)) hr hs0 (by simp only [sliceRows, ho, if_true]; rw [if_pos hcond.1])
              rw [chunk_length] at e1 g3
              rw [chunk_flat] at g2
              injection e1 with e1 e2 e3
              subst e1; subst e3
              have hcl : (cut cs i (n * te.sz)).length = n * te.sz := by simp [cut]; omega
              have hlo2 : _ = ov.length := g2.length
              obtain ⟨kk, rc2, r1, r2, r3, r4⟩ := grow_run (ty := ty) hr h0 h1 hu hxu hd hte hlo hcond.2 hnc (by rw [← hlo2]; exact hcl) (by omega) g3 hxd
              exact object (cut cs i (n * te.sz)) ov n kk rc2 hcl g2 r1 r2 r3 (Ok.refl hr) rfl r4
            · cases h
      · cases h
    · cases h
  · -- its room is not known
    rename_i o i n z
    split at h
    · rename_i hz
      subst hz
      split at h
      · rename_i cs ho
        split at h
        · rename_i hcond
          injection h with h
          injection h with h h'
          injection h' with h' _
          subst h; subst h'
          obtain ⟨A, c', ov, e1, g1, g2, g3⟩ := first_ok (P := P) (z := te.sz) (es := chunk te.sz n (cs.drop i)) hr hs (by simp only [sliceRows, ho, if_true]; rw [if_pos hcond.1])
          rw [chunk_length] at e1 g3
          rw [chunk_flat] at g2
          have hcl : (cut cs i (n * te.sz)).length = n * te.sz := by simp [cut]; omega
          have hlo2 : _ = ov.length := g2.length
          have hlo3 : ov.length = n * te.sz := by rw [← hlo2]; exact hcl
          cases hs with
          | sl hb hn hc hrm =>
            rename_i b s k
            injection e1 with e1 e2 e3
            subst e1; subst e3
            by_cases hnc : n + xs.length ≤ k
            · -- in place
              obtain ⟨rc, ty', fr, us, hh, hvs, hcc⟩ := hr.cells o cs b s ho hb
              obtain ⟨rc0, t0, fr0, q1, q2, q3⟩ := hrm
              rw [hh] at q1
              injection q1 with q1
              injection q1 with e1 e2 e3
              subst e1; subst e2; subst e3
              have hlv := hvs.length
              have hmul : (n + xs.length) * te.sz = n * te.sz + xs.length * te.sz := Nat.add_mul ..
              have hle : (n + xs.length) * te.sz ≤ k * te.sz := Nat.mul_le_mul_right _ hnc
              obtain ⟨w', hrun, hw⟩ := run_storeCells (P := P) (b := b) (s := s + i + n * te.sz) vs 0 rc w hh (by omega) (fun y y1 y2 => q3 y (by omega) (by omega)) (hxv.ones hone)
              obtain ⟨rc', p1, p2, p3⟩ := hw.blk
              have hok := Ok.renew (w' := w') (ob := .cells (cut cs i (n * te.sz) ++ xs.flatten)) (s' := s + i) (Fr' := Fr) hr ho hb (by simp) (by simp) hh
                (fun x _ => trivial) (fun k x hf => .inl hf) (fun k x h => h) (fun x _ hf => hr.free b x ⟨o, s, _, hb, ho, trivial⟩ hf) hw.size ⟨rc', p1, p2⟩ hw.other (fun x hx => absurd trivial hx) hw.os hw.tape hw.output
                (fun cs' e => by
                  injection e with e
                  subst e
                  refine ⟨rc', _, p1, (hvs.cut i (n * te.sz)).append hxv, fun j u hj => ?_⟩
                  have hcl2 : ((us.drop i).take (n * te.sz)).length = n * te.sz := by simp; omega
                  by_cases hjl : j < n * te.sz
                  · rw [List.getElem?_append_left (by omega), List.getElem?_take, if_pos hjl, List.getElem?_drop] at hj
                    have := p3 (s + i + j)
                    rw [if_neg (by omega)] at this
                    rw [this, Nat.add_assoc]
                    exact hcc _ _ hj
                  · rw [List.getElem?_append_right (by omega), hcl2] at hj
                    have hj2 := (List.getElem?_eq_some_iff.1 hj).1
                    have := p3 (s + i + j)
                    rw [if_pos (by omega)] at this
                    rw [this, show s + i + j - (s + i + n * te.sz + 0) = j - n * te.sz by omega]
                    exact ⟨hj, q3 _ (by omega) (by omega)⟩) (fun es e => by cases e)
              refine ⟨.slice (some ⟨b, s + i + 0, none⟩) (n + xs.length) k, _, _, _, ?_, hok, .sl (new_at hr _) hnc (fun _ h => by cases h) (Room.mono hok.stp.shape ⟨rc, ty', fr, hh, by omega, fun y y1 y2 => q3 y (by omega) (by omega)⟩)⟩
              rw [append_in h0 h1 hu hxu hd hsz hlo hxr hnc]
              simp only [addr_add, hrun, Result.andThen_ok, Nat.add_zero]
            · -- a new row
              obtain ⟨kk, rc2, r1, r2, r3, r4⟩ := grow_run (ty := ty) hr h0 h1 hu hxu hd hte hlo hcond.2 hnc hlo3 (by omega) g3 hxd
              have := object (cut cs i (n * te.sz)) ov n kk rc2 hcl g2 r1 r2 r3 (Ok.kill hr hb ⟨_, ho, by simp⟩) (by simp) r4
              exact this
        · cases h
      · cases h
    · cases h
  · cases h

theorem append_ok (hr : Rel Fr β H w) {vm : Bool} {ts : Array TypeId} {ty st xt : Nat} {s x v : EV} {sv xv : Value} {H' : Heap} {W : List Nat} (hs : VR Fr w β s sv) (hx : VR Fr w β x xv) (h0 : ts[0]? = some st) (h1 : ts[1]? = some xt)
    (h : appendE (tiOf P) vm H st xt s x = some (v, H', W)) : Does Fr β H w ((Builtin.append_ ts ty #[sv, xv]).run P w) v H' := by
  unfold appendE at h
  split at h
  · rename_i e sz bytes ag zero eq tx ht htx
    have hu := (tiOf_ok ht).slice
    split at h
    · rename_i te hte
      have hsz : ∀ w, (sizeOf e).run P w = .ok te.sz w := fun w => (tiOf_ok hte).size w
      split at h
      · rename_i hnews
        obtain ⟨⟨d, hxu, hd⟩, hwd, hlo, vs, hxv, hxd⟩ := news_ok (P := P) hr hx htx hnews
        have hxr := hxd w.drawn
        cases hxv
        have go : ∀ (A : Option Addr) (n c : Nat), n ≤ c → sv = .slice A n c → VR Fr w β v sv → H' = H → Does Fr β H w ((Builtin.append_ ts ty #[sv, xv]).run P w) v H' := by
          intro A n c hn e1 hv e2
          subst e1; subst e2
          refine ⟨_, _, _, _, ?_, Ok.refl hr, hv⟩
          rw [append_in h0 h1 hu hxu hd hsz hlo hxr (by simpa using hn)]
          cases A <;> rfl
        split at h
        · injection h with h
          injection h with h h'
          injection h' with h' _
          subst h; subst h'
          have hs0 := hs
          cases hs with
          | fz0 => exact go _ _ _ (Nat.zero_le _) rfl hs0 rfl
          | fz a b c d f g i => exact go _ _ _ f rfl hs0 rfl
        · injection h with h
          injection h with h h'
          injection h' with h' _
          subst h; subst h'
          have hs0 := hs
          cases hs with
          | sl a b c d => exact go _ _ _ b rfl hs0 rfl
        · cases h
      · rename_i xs hne hnews
        obtain ⟨⟨d, hxu, hd⟩, hwd, hlo, vs, hxv, hxd⟩ := news_ok (P := P) hr hx htx hnews
        split at h
        · rename_i hone
          exact growE_ok hr hs h0 h1 hu hxu hd hte hlo hwd hxv hone (fun e => by subst e; exact hne rfl) hxd h
        · cases h
      · cases h
    · cases h
  · cases h

end
end Go.Ev
end

/- The evaluator E: each operation that is no call. -/
section
namespace Go.Ev
open Go
set_option linter.unusedSimpArgs false
set_option linter.unusedVariables false

section
variable {P : Program} {Fr : Nat → Nat → Prop} {w w' : World} {β : Bt} {H : Heap}

theorem push_modify {α : Type} (h : Array α) (x : α) (f : α → α) : (h.push x).modify h.size f = h.push (f x) := by
  apply Array.ext_getElem?
  intro i
  simp only [Array.getElem?_modify, Array.getElem?_push]
  by_cases e : i = h.size
  · subst e; simp
  · rw [if_neg e, if_neg e, if_neg (fun e' : h.size = i => e e'.symm)]

theorem convNew_ok (hr : Rel Fr β H w) {src dst : Nat} {x v : EV} {xv : Value} {H' : Heap} (hx : VR Fr w β x xv) (h : convNew (tiOf P) H src dst x = some (v, H')) : Does Fr β H w ((convert src dst xv).run P w) v H' := by
  unfold convNew at h
  split at h
  · rename_i ts td hs hd
    obtain ⟨ut, sz, bytes, ag, zero, eq⟩ := td
    obtain ⟨ut', sz', bytes', ag', zero', eq'⟩ := ts
    dsimp only at h
    split at h
    · rename_i e s
      split at h
      · rename_i hte
        injection h with h
        injection h with h h'
        subst h; subst h'
        have hus := (tiOf_ok hs).string
        have hud := (tiOf_ok hd).slice
        have hue := (tiOf_ok hte).int
        cases hx with
        | str hb =>
          rename_i b
          subst hb
          have h5 := Ok.drew hr (w.drawn + 1)
          have hbl : b.data.toList.length = b.size := rfl
          obtain ⟨k, hk, hk'⟩ : ∃ k, b.size ≤ k ∧ (Question.appendCap b.size 0 e).cut (w.tape w.drawn (.appendCap b.size 0 e)) = k := ⟨_, by simp [Question.cut], rfl⟩
          obtain ⟨arr, hdef⟩ : ∃ arr : Array Value, ((b.data.map fun c : UInt8 => Value.int .u8 c.toNat) ++ Array.replicate (k - b.size) (Value.int .u8 0)) = arr := ⟨_, rfl⟩
          have harr : arr.size = k := by
            rw [← hdef]
            simp
            have : b.size = b.data.size := rfl
            omega
          have hget : ∀ (j : Nat) (v : Value), (b.data.toList.map fun c : UInt8 => Value.int .u8 c.toNat)[j]? = some v → j < b.size ∧ arr[j]? = some v := fun j v hj => by
            have hlt := (List.getElem?_eq_some_iff.1 hj).1
            simp only [List.length_map] at hlt
            have hlt' : j < b.data.size := by simpa using hlt
            refine ⟨hlt', ?_⟩
            rw [← hdef, Array.getElem?_append_left (by simpa using hlt')]
            simpa using hj
          have hnew := Ok.new (w' := { w with drawn := w.drawn + 1, heap := w.heap.push (.cells arr e (k, k + 1)) }) (ob := .tip b.data.toList.length) (obj := .cells arr e (k, k + 1)) (Fr' := fun c x => Fr c x ∨ (c = w.heap.size ∧ ¬ EO.owns (.tip b.data.toList.length) 0 x)) h5.rel (fun _ _ => Iff.rfl) rfl rfl rfl rfl (fun cs e => by cases e) (fun cs e => by cases e) (fun m _ => ⟨arr, e, _, rfl⟩) (by simp)
          refine ⟨.slice (some ⟨w.heap.size, 0, none⟩) b.size k, _, _, _, ?_, h5.trans hnew, .fz (s := 0) (z := 1) (vs := b.data.toList.map fun c => Value.int .u8 c.toNat) (bytes_VRs _) (by simp) (fun j v hj => ?_) (by simp) hk (fun e => by split at e <;> cases e) (fun o e => ?_)⟩
          · unfold convert
            simp only [Sem.run_bind, run_und hus, run_und hud, Result.andThen_ok, run_und hue]
            simp only [Conv.stringToBytes, Sem.run_bind, run_choose, Question.forced, Bool.false_eq_true, if_false, Result.andThen_ok, hk', hdef, newRow, run_newObj, Sem.run_pure, markStringish, run_shape, World.shape?]
            simp only [Array.getElem?_push_size, harr, run_freeze, World.freeze]
            simp only [push_modify, Result.andThen_ok, Sem.run_pure]
            simp
          · obtain ⟨h1, h2⟩ := hget j v hj
            refine ⟨.inr ⟨rfl, by simp only [EO.owns]; omega⟩, ?_⟩
            simp only [World.cell?, Nat.zero_add, Array.getElem?_push_size, Option.isSome_none, Bool.false_eq_true, if_false]
            exact h2
          · split at e
            · cases e
            · rename_i hne
              injection e with e
              subst e
              exact ⟨fun hn => hne (by simpa using hn), new_at hr _, arr, _, _, by simp; exact ⟨rfl, rfl⟩, by omega, fun y h1 h2 => by simp; omega⟩
      · cases h
    · cases h
  · cases h

/-! ### operands -/
section
variable {G : Nat → Option EV} {env : Look} {ρ : Operand → Value}

/-- The operands, related. -/
def Opd (Fr : Nat → Nat → Prop) (w : World) (β : Bt) (G : Nat → Option EV) (env : Look) (ρ : Operand → Value) : Prop := ∀ (x : Operand) (e : EV), evO G env x = some e → VR Fr w β e (ρ x)

theorem evL_ok (hρ : Opd Fr w β G env ρ) : ∀ (as : List Operand) (vs : List EV), evL G env as = some vs → VRs Fr w β vs (as.map ρ)
  | [], vs, h => by simp only [evL] at h; injection h with h; subst h; exact .nil
  | a :: as, vs, h => by
    simp only [evL] at h
    split at h
    · rename_i v vs' h1 h2
      injection h with h
      subst h
      exact .cons (hρ _ _ h1) (evL_ok hρ as vs' h2)
    · cases h
theorem evOpt_ok (hρ : Opd Fr w β G env ρ) {x : Option Operand} {v : Option EV} (h : evOpt G env x = some v) : OR Fr w β v (x.map ρ) := by
  cases x with
  | none => simp only [evOpt] at h; injection h with h; subst h; exact .none
  | some x =>
    simp only [evOpt] at h
    split at h
    · rename_i v' hv
      injection h with h
      subst h
      exact .some (hρ _ _ hv)
    · cases h
theorem partsE_ok (hρ : Opd Fr w β G env ρ) : ∀ (ps : List (Nat × Operand)) (qs : List (Nat × EV)), partsE G env ps = some qs → qs.map (·.1) = (ps.map fun (x : Nat × Operand) => (x.1, ρ x.2)).map (·.1) ∧ VRs Fr w β (qs.map (·.2)) ((ps.map fun (x : Nat × Operand) => (x.1, ρ x.2)).map (·.2))
  | [], qs, h => by simp only [partsE] at h; injection h with h; subst h; exact ⟨rfl, .nil⟩
  | (i, a) :: ps, qs, h => by
    simp only [partsE] at h
    split at h
    · rename_i v vs' h1 h2
      injection h with h
      subst h
      obtain ⟨h3, h4⟩ := partsE_ok hρ ps vs' h2
      exact ⟨by simp only [List.map_cons, h3], .cons (hρ _ _ h1) h4⟩
    · cases h

/-- What comes of an operation. -/
inductive Nx (Fr : Nat → Nat → Prop) (w : World) (β : Bt) : EV → Next → Prop where
  | value {e v} (h : VR Fr w β e v) : Nx Fr w β e (.value v)
  | skip : Nx Fr w β .undef .skip

def DoesN (Fr : Nat → Nat → Prop) (β : Bt) (H : Heap) (w : World) (r : Result Next) (v : EV) (H' : Heap) : Prop :=
  ∃ (nx : Next) (w' : World) (Fr' : Nat → Nat → Prop) (β' : Bt), r = .ok nx w' ∧ Ok Fr β H w Fr' β' H' w' ∧ Nx Fr' w' β' v nx

theorem Does.n {s : Sem Value} {v : EV} {H' : Heap} (h : Does Fr β H w (s.run P w) v H') : DoesN Fr β H w ((do pure (.value (← s)) : Sem Next).run P w) v H' := by
  obtain ⟨val, w', Fr', β', h1, h2, h3⟩ := h
  exact ⟨.value val, w', Fr', β', by simp only [Sem.run_bind, h1, Result.andThen_ok, Sem.run_pure], h2, .value h3⟩
theorem pure_n (hr : Rel Fr β H w) {s : Sem Value} {o : Option EV} {v : EV} {H' : Heap} {W : List Nat} (h : pureR H o = some (v, H', W)) (hs : ∀ e, o = some e → ∃ val, s.run P w = .ok val w ∧ VR Fr w β e val) :
    DoesN Fr β H w ((do pure (.value (← s)) : Sem Next).run P w) v H' := by
  unfold pureR at h
  split at h
  · injection h with h
    injection h with h h'
    injection h' with h' _
    subst h; subst h'
    obtain ⟨val, h1, h2⟩ := hs _ rfl
    exact Does.n ⟨val, w, Fr, β, h1, Ok.refl hr, h2⟩
  · cases h
theorem unit_n (hr : Rel Fr β H w) {s : Sem Unit} {o : Option (Heap × List Nat)} {v : EV} {H' : Heap} {W : List Nat} (h : unitR o = some (v, H', W)) (hs : ∀ H' W, o = some (H', W) → ∃ w', s.run P w = .ok () w' ∧ Ok Fr β H w Fr β H' w') :
    DoesN Fr β H w ((do s; pure .skip : Sem Next).run P w) v H' := by
  unfold unitR at h
  split at h
  · injection h with h
    injection h with h h'
    injection h' with h' _
    subst h; subst h'
    obtain ⟨w', h1, h2⟩ := hs _ _ rfl
    exact ⟨.skip, w', Fr, β, by simp only [Sem.run_bind, h1, Result.andThen_ok, Sem.run_pure], h2, .skip⟩
  · cases h
theorem new_n {s : Sem Value} {o : Option (EV × Heap)} {v : EV} {H' : Heap} {W : List Nat} (h : newR o = some (v, H', W)) (hs : ∀ v H', o = some (v, H') → Does Fr β H w (s.run P w) v H') :
    DoesN Fr β H w ((do pure (.value (← s)) : Sem Next).run P w) v H' := by
  unfold newR at h
  split at h
  · injection h with h
    injection h with h h'
    injection h' with h' _
    subst h; subst h'
    exact Does.n (hs _ _ rfl)
  · cases h

theorem builtin_ok (hr : Rel Fr β H w) {b : Builtin} {ts : Array TypeId} {ty : TypeId} {cs : Array Bool} {vs : List EV} {as : Array Value} {v : EV} {H' : Heap} {W : List Nat} {vm : Bool} (ha : VRs Fr w β vs as.toList) (h : builtinE (tiOf P) vm H b ts vs = some (v, H', W)) :
    DoesN Fr β H w ((builtin b ts ty cs as).run P w) v H' := by
  unfold builtinE at h
  split at h
  · rename_i x
    split at h
    · rename_i t ht
      split at h
      · rename_i n hn
        injection h with h
        injection h with h h'
        injection h' with h' _
        subst h; subst h'
        obtain ⟨as⟩ := as
        cases ha with
        | cons hx hnil =>
          cases hnil
          exact Does.n ⟨_, w, Fr, β, len_ok hr hx ht hn, Ok.refl hr, .int⟩
      · cases h
    · cases h
  · rename_i s x
    split at h
    · rename_i st xt h0 h1
      obtain ⟨as⟩ := as
      cases ha with
      | cons hs ha => cases ha with
        | cons hx hnil =>
          cases hnil
          exact Does.n (append_ok hr hs hx h0 h1 h)
    · cases h
  · rename_i x r
    obtain ⟨as⟩ := as
    cases ha with
    | cons hx hrs =>
      exact pure_n hr h (fun e he => extreme_ok (big := false) hx hrs he)
  · rename_i x r
    obtain ⟨as⟩ := as
    cases ha with
    | cons hx hrs =>
      exact pure_n hr h (fun e he => extreme_ok (big := true) hx hrs he)
  · cases h

theorem opE_ok (hr : Rel Fr β H w) {E : EP} (hT : E.T = tiOf P) {o : Oper} {v : EV} {H' : Heap} {W : List Nat} (hρ : Opd Fr w β E.G env ρ) (hC : ∀ v, ρ (.const v) = v) (h : opE E env H o.op = some (v, H', W)) :
    DoesN Fr β H w ((execOp ρ o).run P w) v H' := by
  obtain ⟨dst, op, ty, pos, after, guard⟩ := o
  simp only at h
  unfold opE at h
  rw [hT] at h
  split at h
  · rename_i x
    unfold pureR at h
    split at h
    · rename_i e he
      injection h with h
      injection h with h h'
      injection h' with h' _
      subst h; subst h'
      exact ⟨_, w, Fr, β, rfl, Ok.refl hr, .value (hρ _ _ he)⟩
    · cases h
  · rename_i x
    unfold pureR at h
    split at h
    · rename_i e he
      injection h with h
      injection h with h h'
      injection h' with h' _
      subst h; subst h'
      exact ⟨_, w, Fr, β, rfl, Ok.refl hr, .value (hρ _ _ he)⟩
    · cases h
  · rename_i c a b
    split at h
    · rename_i hc
      unfold pureR at h
      split at h
      · rename_i e he
        injection h with h
        injection h with h h'
        injection h' with h' _
        subst h; subst h'
        have hcv := hρ _ _ hc
        generalize hcr : ρ c = cv at hcv
        cases hcv
        exact ⟨_, w, Fr, β, by simp only [execOp, hcr]; rfl, Ok.refl hr, .value (hρ _ _ he)⟩
      · cases h
    · rename_i hc
      unfold pureR at h
      split at h
      · rename_i e he
        injection h with h
        injection h with h h'
        injection h' with h' _
        subst h; subst h'
        have hcv := hρ _ _ hc
        generalize hcr : ρ c = cv at hcv
        cases hcv
        exact ⟨_, w, Fr, β, by simp only [execOp, hcr]; rfl, Ok.refl hr, .value (hρ _ _ he)⟩
      · cases h
    · cases h
  · rename_i e
    split at h
    · rename_i te hte
      split at h
      · injection h with h
        injection h with h h'
        injection h' with h' _
        subst h; subst h'
        exact Does.n (alloc_ok hr hte)
      · cases h
    · cases h
  · rename_i e x
    split at h
    · rename_i xe hx
      split at h
      · injection h with h
        injection h with h h'
        injection h' with h' _
        subst h; subst h'
        exact Does.n (box_ok hr (hρ _ _ hx))
      · cases h
    · cases h
  · rename_i t ps
    split at h
    · rename_i qs hq
      obtain ⟨h1, h2⟩ := partsE_ok hρ _ _ hq
      exact pure_n hr h (fun e he => build_ok (pv := ps.map fun (x : Nat × Operand) => (x.1, ρ x.2)) (by simpa using h1) (by simpa using h2) he)
    · cases h
  · rename_i t n ps
    split at h
    · rename_i qs hq
      obtain ⟨h1, h2⟩ := partsE_ok hρ _ _ hq
      exact new_n h (fun v H' he => buildSlice_ok hr (pv := ps.map fun (x : Nat × Operand) => (x.1, ρ x.2)) (by simpa using h1) (by simpa using h2) he)
    · cases h
  · rename_i t a
    split at h
    · rename_i p hp
      exact pure_n hr h (fun e he => load_ok hr (hρ _ _ hp) he)
    · cases h
  · rename_i t a x
    split at h
    · rename_i p v hp hv
      exact unit_n hr h (fun H' W he => store_ok hr (hρ _ _ hp) (hρ _ _ hv) he)
    · cases h
  · rename_i x
    split at h
    · rename_i o i hx
      injection h with h
      injection h with h h'
      injection h' with h' _
      subst h; subst h'
      have hxv := hρ _ _ hx
      generalize hxr : ρ x = xv at hxv
      cases hxv with
      | ptr hb => exact ⟨_, w, Fr, β, by simp only [execOp, hxr]; rfl, Ok.refl hr, .value (.ptr hb)⟩
    · rename_i cs hx
      injection h with h
      injection h with h h'
      injection h' with h' _
      subst h; subst h'
      have hxv := hρ _ _ hx
      generalize hxr : ρ x = xv at hxv
      cases hxv with
      | fp a b => exact ⟨_, w, Fr, β, by simp only [execOp, hxr]; rfl, Ok.refl hr, .value (.fp a b)⟩
    · rename_i f a b hx
      injection h with h
      injection h with h h'
      injection h' with h' _
      subst h; subst h'
      have hxv := hρ _ _ hx
      generalize hxr : ρ x = xv at hxv
      cases hxv with
      | fn a b => exact ⟨_, w, Fr, β, by simp only [execOp, hxr]; rfl, Ok.refl hr, .value (.fn a b)⟩
    · cases h
  · rename_i op t x y _
    split at h
    · rename_i a b ha hb
      refine pure_n hr h (fun e he => ?_)
      split at he
      · rename_i r hn
        refine nil_ok (hρ _ _ ha) hn (fun hy => ?_) he
        subst hy
        exact hC _
      · exact bin_ok (hρ _ _ ha) (hρ _ _ hb) he
    · cases h
  · rename_i op _ x
    split at h
    · rename_i a ha
      exact pure_n hr h (fun e he => un_ok (hρ _ _ ha) he)
    · cases h
  · rename_i s d x
    split at h
    · rename_i v hv
      split at h
      · rename_i r hc
        exact pure_n hr (o := some r) h (fun e he => by injection he with he; subst he; exact conv_ok hr (hρ _ _ hv) hc)
      · exact new_n h (fun v H' he => convNew_ok hr (hρ _ _ hv) he)
    · cases h
  · rename_i f a b
    split at h
    · rename_i as bs ha hb
      injection h with h
      injection h with h h'
      injection h' with h' _
      subst h; subst h'
      refine ⟨_, w, Fr, β, rfl, Ok.refl hr, .value ?_⟩
      have := VR.fn (f := f) (evL_ok hρ _ _ ha) (evL_ok hρ _ _ hb)
      rw [← Array.toList_map, ← Array.toList_map] at this
      exact this
    · cases h
  · injection h with h
    injection h with h h'
    injection h' with h' _
    subst h; subst h'
    exact Does.n (makeMap_ok hr)
  · rename_i t l c
    split at h
    · rename_i a b ha hb
      exact new_n h (fun v H' he => makeSlice_ok hr (hρ _ _ ha) (hρ _ _ hb) he)
    · cases h
  · rename_i t x lo hi mx
    split at h
    · rename_i v l h1 m hv hl hh hm
      exact pure_n hr h (fun e he => slice_ok (hρ _ _ hv) (evOpt_ok hρ hl) (evOpt_ok hρ hh) (evOpt_ok hρ hm) he)
    · cases h
  · rename_i s x f
    split at h
    · rename_i v hv
      exact pure_n hr h (fun e he => fieldAddr_ok (hρ _ _ hv) he)
    · cases h
  · rename_i s x f
    split at h
    · rename_i v hv
      exact pure_n hr h (fun e he => field_ok (hρ _ _ hv) he)
    · cases h
  · rename_i t x i
    split at h
    · rename_i v j hv hj
      exact pure_n hr h (fun e he => indexAddr_ok (hρ _ _ hv) (hρ _ _ hj) he)
    · cases h
  · rename_i t x i
    split at h
    · rename_i v j hv hj
      exact pure_n hr h (fun e he => index_ok (hρ _ _ hv) (hρ _ _ hj) he)
    · cases h
  · rename_i t m k ok
    split at h
    · rename_i a b ha hb
      exact pure_n hr h (fun e he => lookup_ok hr (hρ _ _ ha) (hρ _ _ hb) he)
    · cases h
  · rename_i t m k x
    split at h
    · rename_i a b v ha hb hv
      exact unit_n hr h (fun H' W he => update_ok hr (hρ _ _ ha) (hρ _ _ hb) (hρ _ _ hv) he)
    · cases h
  · rename_i t m k x
    split at h
    · rename_i a b v ha hb hv
      exact unit_n hr h (fun H' W he => update_ok hr (hρ _ _ ha) (hρ _ _ hb) (hρ _ _ hv) he)
    · cases h
  · rename_i x i
    split at h
    · rename_i vs hx
      refine pure_n hr h (fun e he => ?_)
      have hxv := hρ _ _ hx
      generalize hxr : ρ x = xv at hxv
      cases hxv with
      | tup hvs =>
        obtain ⟨u, h1, h2⟩ := hvs.get he
        exact ⟨u, by simp [Instr.extract, h1], h2⟩
    · cases h
  · rename_i b as ts
    split at h
    · rename_i vs hvs
      have ha := evL_ok hρ _ _ hvs
      simp only [execOp, resolve, invoke, Sem.run_bind, Sem.run_pure, Result.andThen_ok]
      exact builtin_ok hr (by simpa using ha) h
    · cases h
  · cases h

end
end
end Go.Ev
end

/- The evaluator E: what it leaves of its heap. -/
section
namespace Go.Ev
open Go
set_option linter.unusedSimpArgs false
set_option linter.unusedVariables false

def Grw (H H' : Heap) (W : List Nat) : Prop := H.length ≤ H'.length ∧ ∀ o, o < H.length → o ∉ W → H'[o]? = H[o]?

section
variable {H H1 H2 : Heap} {W W1 W2 : List Nat}
theorem Grw.refl : Grw H H W := ⟨Nat.le_refl _, fun _ _ _ => rfl⟩
theorem Grw.trans (h : Grw H H1 W1) (k : Grw H1 H2 W2) : Grw H H2 (W1 ++ W2) :=
  ⟨Nat.le_trans h.1 k.1, fun o ho hn => (k.2 o (Nat.lt_of_lt_of_le ho h.1) (fun e => hn (List.mem_append_right _ e))).trans (h.2 o ho (fun e => hn (List.mem_append_left _ e)))⟩
theorem Grw.app {x : EO} : Grw H (H ++ [x]) W := ⟨by simp, fun o ho _ => List.getElem?_append_left ho⟩
theorem Grw.set {o : Nat} {x : EO} : Grw H (H.set o x) [o] := ⟨by simp, fun o' ho hn => by rw [List.getElem?_set, if_neg (fun e => hn (by simp [e]))]⟩
theorem Grw.setapp {o : Nat} {x y : EO} : Grw H (H.set o x ++ [y]) [o] := ⟨by simp, fun o' ho hn => by rw [List.getElem?_append_left (by simpa using ho), List.getElem?_set, if_neg (fun e => hn (by simp [e]))]⟩

theorem pureR_grw {o : Option EV} {v : EV} (h : pureR H o = some (v, H1, W)) : Grw H H1 W := by
  unfold pureR at h
  split at h
  · injection h with h; injection h with _ h; injection h with h _; subst h; exact .refl
  · cases h
theorem unitR_grw {o : Option (Heap × List Nat)} {v : EV} (h : unitR o = some (v, H1, W)) (ho : ∀ H1 W, o = some (H1, W) → Grw H H1 W) : Grw H H1 W := by
  unfold unitR at h
  split at h
  · injection h with h; injection h with _ h; injection h with h h'; subst h; subst h'; exact ho _ _ rfl
  · cases h
theorem newR_grw {o : Option (EV × Heap)} {v : EV} (h : newR o = some (v, H1, W)) (ho : ∀ v H1, o = some (v, H1) → Grw H H1 W) : Grw H H1 W := by
  unfold newR at h
  split at h
  · injection h with h; injection h with _ h; injection h with h h'; subst h; subst h'; exact ho _ _ rfl
  · cases h

theorem store_grw {T : TT} {t : Nat} {p v : EV} (h : storeE T H t p v = some (H1, W)) : Grw H H1 W := by
  unfold storeE at h
  split at h
  · split at h
    · split at h
      · injection h with h; injection h with h h'; subst h; subst h'; exact .set
      · cases h
    · cases h
  · cases h
theorem update_grw {T : TT} {t : Nat} {m k v : EV} (h : updateE T H t m k v = some (H1, W)) : Grw H H1 W := by
  unfold updateE at h
  split at h
  · split at h
    · split at h
      · split at h
        · injection h with h; injection h with h h'; subst h; subst h'; exact .set
        · injection h with h; injection h with h h'; subst h; subst h'; exact .set
        · cases h
      · cases h
    · cases h
  · cases h
theorem grow_grw {vm : Bool} {te : TI} {xs : List (List EV)} {s v : EV} (h : growE vm H te xs s = some (v, H1, W)) : Grw H H1 W := by
  unfold growE at h
  repeat' split at h
  all_goals first | (cases h; done) | (injection h with h; injection h with _ h; injection h with h h'; subst h; subst h'; first | exact .app | exact .set | exact .setapp | exact .refl)
theorem append_grw {T : TT} {vm : Bool} {st xt : Nat} {s x v : EV} (h : appendE T vm H st xt s x = some (v, H1, W)) : Grw H H1 W := by
  unfold appendE at h
  repeat' split at h
  all_goals first | (cases h; done) | (injection h with h; injection h with _ h; injection h with h h'; subst h; subst h'; exact .refl) | exact grow_grw h
theorem builtin_grw {T : TT} {vm : Bool} {b : Builtin} {ts : Array TypeId} {vs : List EV} {v : EV} (h : builtinE T vm H b ts vs = some (v, H1, W)) : Grw H H1 W := by
  unfold builtinE at h
  split at h
  · split at h
    · split at h
      · injection h with h; injection h with _ h; injection h with h h'; subst h; exact .refl
      · cases h
    · cases h
  · split at h
    · exact append_grw h
    · cases h
  · exact pureR_grw h
  · exact pureR_grw h
  · cases h

theorem opE_grw {E : EP} {env : Look} {op : Op} {v : EV} (h : opE E env H op = some (v, H1, W)) : Grw H H1 W := by
  unfold opE at h
  split at h
  all_goals (try (split at h))
  all_goals (try (split at h))
  all_goals first
    | (exact pureR_grw h)
    | (cases h; done)
    | (injection h with h; injection h with _ h; injection h with h h'; subst h; subst h'; first | exact .refl | exact .app)
    | (exact unitR_grw h fun _ _ => store_grw)
    | (exact unitR_grw h fun _ _ => update_grw)
    | (exact builtin_grw h)
    | (refine newR_grw h fun v H1 h => ?_
       unfold buildSliceE at h
       repeat' split at h
       all_goals first | (cases h; done) | (injection h with h; injection h with _ h; subst h; first | exact .app | exact .refl))
    | (refine newR_grw h fun v H1 h => ?_
       unfold convNew at h
       repeat' split at h
       all_goals first | (cases h; done) | (injection h with h; injection h with _ h; subst h; first | exact .app | exact .refl))
    | (refine newR_grw h fun v H1 h => ?_
       unfold makeSliceE at h
       repeat' split at h
       all_goals first | (cases h; done) | (injection h with h; injection h with _ h; subst h; first | exact .app | exact .refl))

def CfGrw (cf : CallF) : Prop := ∀ f args H v H' W, cf f args H = some (v, H', W) → Grw H H' W
def DfGrw (df : DrawF) : Prop := ∀ ops env H env' H' W, df ops env H = some (env', H', W) → Grw H H' W

theorem stepE_grw {E : EP} {cf : CallF} (hc : CfGrw cf) {env : Look} {op : Op} {v : EV} (h : stepE E cf env H op = some (v, H1, W)) : Grw H H1 W := by
  unfold stepE at h
  split at h
  · split at h
    · exact hc _ _ _ _ _ _ h
    · cases h
  · exact opE_grw h

theorem opsE_grw {E : EP} {cf : CallF} (hc : CfGrw cf) {ops : Array Oper} : ∀ (l : List Nat) (env env' : Env) (H H1 : Heap) (W : List Nat), opsE E cf ops l env H = some (env', H1, W) → Grw H H1 W
  | [], env, env', H, H1, W, h => by simp only [opsE] at h; injection h with h; injection h with _ h; injection h with h h'; subst h; exact .refl
  | i :: l, env, env', H, H1, W, h => by
    simp only [opsE] at h
    split at h
    · cases h
    · split at h
      · split at h
        · rename_i e1
          split at h
          · rename_i e2
            injection h with h; injection h with _ h; injection h with h h'; subst h; subst h'
            exact (stepE_grw hc e1).trans (opsE_grw hc l _ _ _ _ _ e2)
          · cases h
        · cases h
      · exact opsE_grw hc l _ _ _ _ _ h
      · cases h

theorem iterE_grw {f : Env → Heap → CRes} (hf : ∀ env H x env' H' W, f env H = some (x, env', H', W) → Grw H H' W) : ∀ (n : Nat) (env : Env) (H : Heap) (x : EX) (env' : Env) (H' : Heap) (W : List Nat), iterE f n env H = some (x, env', H', W) → Grw H H' W
  | 0, _, _, _, _, _, _, h => by simp [iterE] at h
  | n + 1, env, H, x, env', H', W, h => by
    simp only [iterE] at h
    split at h
    · rename_i e1
      split at h
      · rename_i e2
        injection h with h; injection h with _ h; injection h with _ h; injection h with h h'; subst h; subst h'
        exact (hf _ _ _ _ _ _ e1).trans (iterE_grw hf n _ _ _ _ _ _ e2)
      · cases h
    · exact hf _ _ _ _ _ _ h

theorem codeE_grw {E : EP} {cf : CallF} {df : DrawF} (hc : CfGrw cf) (hd : DfGrw df) : ∀ (c : Code) (env : Env) (H : Heap) (x : EX) (env' : Env) (H' : Heap) (W : List Nat), codeE E cf df c env H = some (x, env', H', W) → Grw H H' W := by
  intro c
  induction c with
  | skip => intro env H x env' H' W h; simp only [codeE] at h; injection h with h; injection h with _ h; injection h with _ h; injection h with h _; subst h; exact .refl
  | region id ops draws =>
    intro env H x env' H' W h
    cases draws with
    | false =>
      simp only [codeE] at h
      split at h
      · rename_i e1
        injection h with h; injection h with _ h; injection h with _ h; injection h with h h'; subst h; subst h'
        exact opsE_grw hc _ _ _ _ _ _ e1
      · cases h
    | true =>
      simp only [codeE] at h
      split at h
      · rename_i e1
        injection h with h; injection h with _ h; injection h with _ h; injection h with h h'; subst h; subst h'
        exact hd _ _ _ _ _ _ e1
      · cases h
  | seq a b iha ihb =>
    intro env H x env' H' W h
    simp only [codeE] at h
    split at h
    · rename_i e1
      split at h
      · rename_i e2
        injection h with h; injection h with _ h; injection h with _ h; injection h with h h'; subst h; subst h'
        exact (iha _ _ _ _ _ _ e1).trans (ihb _ _ _ _ _ _ e2)
      · cases h
    · exact iha _ _ _ _ _ _ h
  | cond c a b iha ihb =>
    intro env H x env' H' W h
    simp only [codeE] at h
    split at h
    · exact iha _ _ _ _ _ _ h
    · exact ihb _ _ _ _ _ _ h
    · cases h
  | block id c ih =>
    intro env H x env' H' W h
    simp only [codeE] at h
    split at h
    · rename_i e1
      split at h
      · injection h with h; injection h with _ h; injection h with _ h; injection h with h h'; subst h; subst h'
        exact ih _ _ _ _ _ _ e1
      · injection h with h; injection h with _ h; injection h with _ h; injection h with h h'; subst h; subst h'
        exact ih _ _ _ _ _ _ e1
    · exact ih _ _ _ _ _ _ h
  | loop c ih =>
    intro env H x env' H' W h
    simp only [codeE] at h
    exact iterE_grw ih _ _ _ _ _ _ _ h
  | exit id => intro env H x env' H' W h; simp only [codeE] at h; injection h with h; injection h with _ h; injection h with _ h; injection h with h _; subst h; exact .refl
  | ret => intro env H x env' H' W h; simp only [codeE] at h; injection h with h; injection h with _ h; injection h with _ h; injection h with h _; subst h; exact .refl
  | _ => intro env H x env' H' W h; simp [codeE] at h

theorem Grw.filter (h : Grw H H1 W) : Grw H H1 (W.filter (· < H.length)) := ⟨h.1, fun o ho hn => h.2 o ho (fun e => hn (List.mem_filter.2 ⟨e, by simpa using ho⟩))⟩

theorem keepV_grw {base d o : Nat} {v v' : EV} {K K' : Heap} (h : keepV H base d v K = some (v', K', o)) : Grw K K' W := by
  unfold keepV at h
  repeat' split at h
  all_goals first | (cases h; done) | (injection h with h; injection h with _ h; injection h with h _; subst h; first | exact .app | exact .refl)

theorem meltV_grw {v v' : EV} {K K' : Heap} (h : meltV H.length K v = some (v', K')) (hg : Grw H K W) : Grw H K' W := by
  unfold meltV at h
  repeat' split at h
  all_goals first | (cases h; done) | skip
  rename_i hb _ _ _ _ _ _ _
  injection h with h; injection h with _ h; subst h
  refine ⟨by simp; have := hg.1; omega, fun x hx hn => ?_⟩
  have hK := hg.1
  rw [List.getElem?_append_left (by simp; omega), List.getElem?_set, if_neg (by omega)]
  exact hg.2 x hx hn

theorem finishE_grw {pol : Nat} {v v' : EV} (h : Grw H H1 W) (e : finishE pol H H1 W v = (v', H2, W2)) : Grw H H2 W2 := by
  unfold finishE at e
  simp only at e
  have hf := h.filter
  generalize W.filter (· < H.length) = Wf at e hf
  repeat' split at e
  all_goals (injection e with _ e; injection e with e e'; subst e; subst e'; first | exact .refl | exact hf | exact meltV_grw (by assumption) (keepV_grw (by assumption)) | exact keepV_grw (by assumption))

theorem bodyE_grw {E : EP} {cf : CallF} {df : DrawF} (hc : CfGrw cf) (hd : DfGrw df) {f : Nat} {fn : Func} {c : Code} {args : List EV} {v : EV} (h : bodyE E cf df f fn c args H = some (v, H1, W)) : Grw H H1 W := by
  unfold bodyE at h
  split at h
  · split at h
    · cases h
    · rename_i e1
      split at h
      · injection h with h
        exact finishE_grw (codeE_grw hc hd _ _ _ _ _ _ _ e1) h
      · cases h
    · cases h
  · cases h
theorem codeD_grw {E : EP} {cf : CallF} {df : DrawF} (hc : CfGrw cf) (hd : DfGrw df) : ∀ (c : Code) (env : Env) (H : Heap) (x : EX) (env' : Env) (H' : Heap) (W : List Nat) (d : Option (Nat × List EV)), codeD E cf df c env H = some (x, env', H', W, d) → Grw H H' W := by
  intro c
  induction c with
  | seq a b iha ihb =>
    intro env H x env' H' W d h
    simp only [codeD] at h
    split at h
    · split at h
      · rename_i e1
        split at h
        · split at h
          · rename_i e2
            injection h with h; injection h with _ h; injection h with _ h; injection h with h h'; injection h' with h' _; subst h; subst h'
            exact (stepE_grw hc e1).trans (codeE_grw hc hd _ _ _ _ _ _ _ e2)
          · cases h
        · cases h
      · cases h
    · split at h
      · rename_i e1
        split at h
        · rename_i e2
          injection h with h; injection h with _ h; injection h with _ h; injection h with h h'; injection h' with h' _; subst h; subst h'
          exact (codeE_grw hc hd _ _ _ _ _ _ _ e1).trans (ihb _ _ _ _ _ _ _ e2)
        · cases h
      · rename_i e1
        injection h with h; injection h with _ h; injection h with _ h; injection h with h h'; injection h' with h' _; subst h; subst h'
        exact codeE_grw hc hd _ _ _ _ _ _ _ e1
      · cases h
  | _ => intro env H x env' H' W d h; simp [codeD] at h
theorem callD_grw {E : EP} {cf : CallF} {df : DrawF} (hc : CfGrw cf) (hd : DfGrw df) {f : Nat} {fn : Func} {c : Code} {args : List EV} {v : EV} (h : callD E cf df f fn c args H = some (v, H1, W)) : Grw H H1 W := by
  unfold callD at h
  split at h
  · split at h
    · cases h
    · rename_i e1
      split at h
      · injection h with h
        exact finishE_grw (codeD_grw hc hd _ _ _ _ _ _ _ _ e1) h
      · cases h
    · rename_i e1
      split at h
      · split at h
        · split at h
          · rename_i e2
            split at h
            · injection h with h
              exact finishE_grw ((codeD_grw hc hd _ _ _ _ _ _ _ _ e1).trans (bodyE_grw hc hd e2)) h
            · cases h
          · cases h
        · cases h
      · cases h
    · cases h
  · cases h
theorem callE_grw {E : EP} {df : CallF → DrawF} (hI : ∀ f args H v H' W, E.I f args H = some (v, H', W) → Grw H H' W) (hd : ∀ cf, CfGrw cf → DfGrw (df cf)) : ∀ k, CfGrw (callE E df k)
  | 0 => fun f args H v H' W h => by simp [callE] at h
  | k + 1 => fun f args H v H' W h => by
    have ih := callE_grw hI hd k
    simp only [callE] at h
    split at h
    · rename_i e
      injection h with h
      subst h
      exact hI _ _ _ _ _ _ e
    · split at h
      · cases h
      · split at h
        · cases h
        · split at h
          · exact callD_grw ih (hd _ ih) h
          · exact bodyE_grw ih (hd _ ih) h
end
end Go.Ev
end
