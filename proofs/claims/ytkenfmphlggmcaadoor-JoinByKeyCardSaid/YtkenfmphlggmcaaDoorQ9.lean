/- The evaluator E: a region's operations over known temporaries, as a function: what is looked at under a guard is one truth value behind it. -/
import Derived.Test.YtkenfmphlggmcaaDoorQ8

section
namespace Go.Ev
open Go
set_option linter.unusedSimpArgs false
set_option linter.unusedVariables false

section
variable (E : EP) (D : EP → CallF → DrawF)
open Classical in
/-- What a call hands back. -/
noncomputable def CallV (f : Nat) (args : List EV) (H : Heap) : Option (EV × Heap × List Nat) := if h : ∃ r : EV × Heap × List Nat, CallR E D f args H r.1 r.2.1 r.2.2 then some (Classical.choose h) else none

noncomputable def stepF (vm : Bool) (l : Look) (H : Heap) (op : Op) : Option (EV × Heap × List Nat) :=
  match op with
  | .call { callee := .value f, args := as, .. } => match evO E.G l f, evL E.G l as.toList with
    | some (.fn g a b), some vs => match some (a ++ vs ++ b) with
      | some args => CallV E D g args H
      | none => none
    | _, _ => none
  | .pick c a b => match evO E.G l c, evO E.G l a, evO E.G l b with
    | some (.bool c), some (.bool x), some (.bool y) => some (.bool (if c = true then x else y), H, [])
    | some (.bool c), some x, some y => if c = true then some (x, H, []) else some (y, H, [])
    | _, _, _ => none
  | op => opE { E with vm := vm } l H op

/-- Is it known that a guard says yes? -/
def knows : List (Nat × Bool) → Nat → Bool → Bool
  | [], _, _ => false
  | (c, w) :: r, d, want => (c == d && w == want) || knows r d want
theorem knows_mem : ∀ {kn : List (Nat × Bool)} {d : Nat} {want : Bool}, knows kn d want = true → (d, want) ∈ kn
  | [], _, _, h => by cases h
  | (c, w) :: r, d, want, h => by
    simp only [knows, Bool.or_eq_true, Bool.and_eq_true, beq_iff_eq] at h
    rcases h with ⟨rfl, rfl⟩ | h
    · exact List.mem_cons_self ..
    · exact List.mem_cons_of_mem _ (knows_mem h)
/-- What a guard says. -/
inductive Gd where
  | yes
  | no
  | may (b : Bool) (d : Nat) (want : Bool)
  | bad
/-- An operation without what does not matter; its guard names a temporary. -/
structure SOp where
  guard : Option (Nat × Bool)
  dst : Option Nat
  op : Op
def nrm (ops : List Oper) (o : Oper) : SOp := ⟨match o.guard with
  | none => none
  | some (j, w) => match (ops[j]?).bind (·.dst) with
    | some d => some (d, w)
    | none => none, o.dst, o.op⟩
/-- Do all guards name a temporary? Do all go to a place that there is? -/
def nrmL (ops : List Oper) (N : Nat) : List Oper → Bool
  | [] => true
  | o :: rest => (match o.guard with
    | none => true
    | some (j, _) => ((ops[j]?).bind (·.dst)).isSome) && dstOk N o.dst && nrmL ops N rest
theorem nrmL_mem {ops : List Oper} {N : Nat} : ∀ {l : List Oper}, nrmL ops N l = true → ∀ o ∈ l, dstOk N o.dst = true ∧ ∀ j w, o.guard = some (j, w) → ((ops[j]?).bind (·.dst)).isSome = true
  | [], _, o, ho => by cases ho
  | o' :: l, h, o, ho => by
    simp only [nrmL, Bool.and_eq_true] at h
    rcases List.mem_cons.1 ho with rfl | ho
    · refine ⟨h.1.2, fun j w hg => ?_⟩
      have := h.1.1
      rw [hg] at this
      exact this
    · exact nrmL_mem h.2 o ho
def nrmOk (ops : List Oper) : Prop := ∀ o ∈ ops, ∀ j w, o.guard = some (j, w) → ((ops[j]?).bind (·.dst)).isSome = true
def guardF (kn : List (Nat × Bool)) (l : Look) (o : SOp) : Gd :=
  match o.guard with
  | none => .yes
  | some (d, want) => if knows kn d want = true then .yes else match l d with
    | some (.bool b) => .may b d want
    | some .undef => .no
    | _ => .bad
def guardOk (kn : List (Nat × Bool)) (l : Look) (o : SOp) : Bool := match guardF kn l o with
  | .yes => true
  | .may b _ want => b == want
  | _ => false
/-- The pick that ends what is looked at under a guard: where it goes, what it picks. -/
def pickOf (d : Nat) (want : Bool) (o : SOp) : Option (Nat × Operand) :=
  match o.dst, o.op with
  | some t, .pick (.tmp c) a b => if c = d then match want, a, b with
      | true, x, .const (.bool false) => some (t, x)
      | false, .const (.bool true), x => some (t, x)
      | _, _, _ => none
    else none
  | _, _ => none
def splitBlk (d : Nat) (want : Bool) : List SOp → Option (List SOp × SOp × Nat × Operand × List SOp)
  | [] => none
  | o :: rest => match pickOf d want o with
    | some (t, x) => some ([], o, t, x, rest)
    | none => match splitBlk d want rest with
      | some (blk, p, t, x, r) => some (o :: blk, p, t, x, r)
      | none => none
/-- Is each looked at under that guard alone? -/
def gated (d : Nat) (want : Bool) : List Nat → List SOp → Bool
  | _, [] => true
  | seen, o :: rest => (match o.guard with
    | some (c, w) => (c == d && w == want) || seen.contains c
    | none => false) && gated d want (match o.dst with | some t => t :: seen | none => seen) rest
/-- Are none of the known temporaries written (nor d)? -/
def apart (M : Mm) : List SOp → Bool
  | [] => true
  | o :: rest => (match o.dst with
    | some t => (lk M t).isNone
    | none => true) && apart M rest
theorem apart_mem {M : Mm} : ∀ {l : List SOp}, apart M l = true → ∀ o ∈ l, ∀ t, o.dst = some t → M.lookup t = none
  | [], _, o, ho, _, _ => by cases ho
  | o' :: l, h, o, ho, t, ht => by
    simp only [apart, Bool.and_eq_true] at h
    rcases List.mem_cons.1 ho with rfl | ho
    · have := h.1
      rw [ht] at this
      exact Option.isNone_iff_eq_none.1 this
    · exact apart_mem h.2 o ho t ht
open Classical in
/-- A block that is looked at under a guard: the one truth value that it finds out. -/
noncomputable def blkV (vm : Bool) : Nat → List (Nat × Bool) → List SOp → Mm → Heap → Operand → Option Bool
  | 0, _, _, _, _, _ => none
  | _ + 1, _, [], M, _, x => match evO E.G (lk M) x with
    | some (.bool r) => some r
    | _ => none
  | n + 1, kn, o :: rest, M, H, x => match guardF kn (lk M) o with
    | .yes => match stepF E D vm (lk M) H o.op with
      | some (v, H1, []) => if H1 = H then match o.dst with
          | some d => blkV vm n kn rest ((d, v) :: M) H x
          | none => blkV vm n kn rest M H x
        else none
      | _ => none
    | .no => match o.dst with
      | some d => blkV vm n kn rest ((d, .undef) :: M) H x
      | none => blkV vm n kn rest M H x
    | .may b d want => match splitBlk d want (o :: rest) with
      | some (blk, p, t, y, rest') => if (gated d want [] blk && apart M blk && guardOk kn (lk M) p) = true then
          match (if b = want then blkV vm n ((d, want) :: kn) blk M H y else some (!want)) with
          | some r => blkV vm n kn rest' ((t, .bool r) :: M) H x
          | none => none
        else none
      | none => if b = want then match stepF E D vm (lk M) H o.op with
          | some (v, H1, []) => if H1 = H then match o.dst with
              | some d => blkV vm n kn rest ((d, v) :: M) H x
              | none => blkV vm n kn rest M H x
            else none
          | _ => none
        else match o.dst with
          | some d => blkV vm n kn rest ((d, .undef) :: M) H x
          | none => blkV vm n kn rest M H x
    | .bad => none

/-- A region's operations; K: for what is behind them. -/
noncomputable def opsC (vm : Bool) : Nat → List SOp → Mm → Heap → List Nat → (Mm → Heap → List Nat → Prop) → Prop
  | 0, _, _, _, _, _ => False
  | _ + 1, [], M, H, W, K => K M H W
  | n + 1, o :: rest, M, H, W, K => match guardF [] (lk M) o with
    | .yes => match stepF E D vm (lk M) H o.op with
      | some (v, H1, W1) => match o.dst with
        | some d => opsC vm n rest ((d, v) :: M) H1 (W ++ W1) K
        | none => opsC vm n rest M H1 (W ++ W1) K
      | none => False
    | .no => match o.dst with
      | some d => opsC vm n rest ((d, .undef) :: M) H W K
      | none => opsC vm n rest M H W K
    | .may b d want => match splitBlk d want (o :: rest) with
      | some (blk, p, t, y, rest') => if (gated d want [] blk && apart M blk && guardOk [] (lk M) p) = true then
          match (if b = want then blkV E D vm n [(d, want)] blk M H y else some (!want)) with
          | some r => opsC vm n rest' ((t, .bool r) :: M) H W K
          | none => False
        else False
      | none => (b = want → match stepF E D vm (lk M) H o.op with
          | some (v, H1, W1) => match o.dst with
            | some d => opsC vm n rest ((d, v) :: M) H1 (W ++ W1) K
            | none => opsC vm n rest M H1 (W ++ W1) K
          | none => False) ∧ (¬ b = want → match o.dst with
          | some d => opsC vm n rest ((d, .undef) :: M) H W K
          | none => opsC vm n rest M H W K)
    | .bad => False
end

def runL (E : EP) (cf : CallF) (ops : Array Oper) : List Oper → Env → Heap → Option (Env × Heap × List Nat)
  | [], env, H => some (env, H, [])
  | o :: rest, env, H => match wantE ops (look env) o with
    | some true => match stepE E cf (look env) H o.op with
      | some (v, H1, W1) => match runL E cf ops rest (putE env o.dst v) H1 with
        | some (env2, H2, W2) => some (env2, H2, W1 ++ W2)
        | none => none
      | none => none
    | some false => runL E cf ops rest (putE env o.dst .undef) H
    | none => none

section
variable {E : EP} {D : EP → CallF → DrawF} {vm : Bool} {N : Nat}

theorem CallV.spec {f : Nat} {args : List EV} {H H1 : Heap} {v : EV} {W : List Nat} (h : CallV E D f args H = some (v, H1, W)) : CallR E D f args H v H1 W := by
  unfold CallV at h
  split at h
  · rename_i hex
    injection h with h
    have := Classical.choose_spec hex
    rw [h] at this
    exact this
  · cases h
theorem CallR.det {f : Nat} {args : List EV} {H H1 H2 : Heap} {v1 v2 : EV} {W1 W2 : List Nat} (h1 : CallR E D f args H v1 H1 W1) (h2 : CallR E D f args H v2 H2 W2) : v1 = v2 ∧ H1 = H2 ∧ W1 = W2 := by
  obtain ⟨n, h1⟩ := h1
  obtain ⟨m, h2⟩ := h2
  have e1 := h1 (max n m) (by omega) (max n m) (by omega)
  have e2 := h2 (max n m) (by omega) (max n m) (by omega)
  rw [e1] at e2
  injection e2 with e2
  injection e2 with e2 e3
  injection e3 with e3 e4
  exact ⟨e2, e3, e4⟩
theorem CallR.val {f : Nat} {args : List EV} {H H1 : Heap} {v : EV} {W : List Nat} (h : CallR E D f args H v H1 W) : CallV E D f args H = some (v, H1, W) := by
  have hex : ∃ r : EV × Heap × List Nat, CallR E D f args H r.1 r.2.1 r.2.2 := ⟨(v, H1, W), h⟩
  cases hc : CallV E D f args H with
  | none =>
    unfold CallV at hc
    rw [dif_pos hex] at hc
    cases hc
  | some r =>
    obtain ⟨v', H', W'⟩ := r
    obtain ⟨rfl, rfl, rfl⟩ := h.det (CallV.spec hc)
    rfl

theorem stepF_ok {l l' : Look} (hm : ∀ t v, l t = some v → l' t = some v) {H H1 : Heap} {op : Op} {v : EV} {W1 : List Nat} (h : stepF E D vm l H op = some (v, H1, W1)) :
    ∃ n, ∀ m, n ≤ m → ∀ k, n ≤ k → stepE { E.at m with vm := vm } (cfAt E D m k) l' H op = some (v, H1, W1) := by
  have key : stepW E D vm l H op fun v' H' W' => v' = v ∧ H' = H1 ∧ W' = W1 := by
    unfold stepF at h
    split at h
    · split at h
      · rename_i h1 h2
        unfold stepW
        simp only [h1, h2]
        exact ⟨_, _, _, CallV.spec h, rfl, rfl, rfl⟩
      · cases h
    · split at h
      · rename_i c x y h1 h2 h3
        have e2 : evO E.G l _ = _ := h2
        have e3 : evO E.G l _ = _ := h3
        injection h with h; injection h with h4 h; injection h with h5 h6
        subst h4; subst h5; subst h6
        unfold stepW opE
        cases c with
        | true => simp [h1, h2, pureR]
        | false => simp [h1, h3, pureR]
      · rename_i c x y _ h1 h2 h3
        have e2 : evO E.G l _ = _ := h2
        have e3 : evO E.G l _ = _ := h3
        unfold stepW opE
        cases c with
        | true =>
          injection h with h; injection h with h4 h; injection h with h5 h6
          subst h4; subst h5; subst h6
          simp [h1, h2, pureR]
        | false =>
          injection h with h; injection h with h4 h; injection h with h5 h6
          subst h4; subst h5; subst h6
          simp [h1, h3, pureR]
      · cases h
    · rename_i hne _
      unfold stepW
      split
      · exact (hne _ _ _ rfl).elim
      · rw [h]
        exact ⟨rfl, rfl, rfl⟩
  obtain ⟨v', H', W', h1, rfl, rfl, rfl⟩ := stepW_ok hm key
  exact h1

theorem guardF_ok {ops : Array Oper} (hok : nrmOk ops.toList) {kn : List (Nat × Bool)} {M : Mm} {env : Env} (hkn : ∀ p ∈ kn, env[p.1]? = some (.bool p.2)) (hh : Has M env) {o : Oper} (ho : o ∈ ops.toList) : (guardF kn (lk M) (nrm ops.toList o) = .yes → wantE ops (look env) o = some true) ∧ (guardF kn (lk M) (nrm ops.toList o) = .no → wantE ops (look env) o = some false) ∧
    (∀ b d want, guardF kn (lk M) (nrm ops.toList o) = .may b d want → wantE ops (look env) o = some (b == want) ∧ M.lookup d = some (.bool b)) := by
  have hb : ∀ j : Nat, (ops.toList[j]?).bind (·.dst) = (ops[j]?).bind (·.dst) := fun j => by simp
  unfold guardF wantE nrm
  cases hg : o.guard with
  | none => simp
  | some p =>
    obtain ⟨j, want⟩ := p
    have h0 := hok o ho j want hg
    simp only [hb] at h0 ⊢
    cases hd : (ops[j]?).bind (·.dst) with
    | none => rw [hd] at h0; cases h0
    | some d =>
      simp only
      by_cases hk : knows kn d want = true
      · have hl2 : look env d = some (.bool want) := hkn _ (knows_mem hk)
        simp [hk, hl2]
      rw [if_neg hk]
      cases hl : lk M d with
      | none => simp
      | some v =>
        have := hh d v hl
        have hl2 : look env d = some v := this
        cases v <;> simp [hl2]
        exact hl

theorem runL_append {cf : CallF} {ops : Array Oper} : ∀ (a b : List Oper) (env : Env) (H : Heap), runL E cf ops (a ++ b) env H = match runL E cf ops a env H with
    | some (env1, H1, W1) => match runL E cf ops b env1 H1 with
      | some (env2, H2, W2) => some (env2, H2, W1 ++ W2)
      | none => none
    | none => none
  | [], b, env, H => by
    simp only [List.nil_append, runL]
    cases runL E cf ops b env H with
    | none => rfl
    | some r => rfl
  | o :: a, b, env, H => by
    simp only [List.cons_append, runL]
    cases wantE ops (look env) o with
    | none => rfl
    | some w =>
      cases w with
      | true =>
        simp only
        cases stepE E cf (look env) H o.op with
        | none => rfl
        | some r =>
          obtain ⟨v, H1, W1⟩ := r
          simp only [runL_append a b]
          cases runL E cf ops a (putE env o.dst v) H1 with
          | none => rfl
          | some r =>
            obtain ⟨env2, H2, W2⟩ := r
            simp only
            cases runL E cf ops b env2 H2 with
            | none => rfl
            | some r => simp [List.append_assoc]
      | false => simp only [runL_append a b]
theorem runL_keeps {cf : CallF} {ops : Array Oper} : ∀ (l : List Oper) (env env' : Env) (H H' : Heap) (W : List Nat), runL E cf ops l env H = some (env', H', W) → env'.length = env.length ∧ ∀ t, (∀ o ∈ l, o.dst ≠ some t) → env'[t]? = env[t]?
  | [], env, env', H, H', W, h => by
    simp only [runL] at h
    injection h with h; injection h with h _
    subst h
    exact ⟨rfl, fun _ _ => rfl⟩
  | o :: l, env, env', H, H', W, h => by
    have put : ∀ v, ∀ t, o.dst ≠ some t → (putE env o.dst v)[t]? = env[t]? := fun v t ht => by
      cases hd : o.dst with
      | none => rfl
      | some d =>
        simp only [putE]
        rw [List.getElem?_set, if_neg (fun e => ht (by rw [hd, e]))]
    simp only [runL] at h
    split at h
    · split at h
      · rename_i v H1 W1 _
        split at h
        · rename_i e2
          injection h with h; injection h with h _
          subst h
          obtain ⟨g1, g2⟩ := runL_keeps l _ _ _ _ _ e2
          refine ⟨by rw [g1, putE_length], fun t ht => ?_⟩
          rw [g2 t (fun o' ho' => ht o' (List.mem_cons_of_mem _ ho')), put v t (ht o (List.mem_cons_self ..))]
        · cases h
      · cases h
    · obtain ⟨g1, g2⟩ := runL_keeps l _ _ _ _ _ h
      refine ⟨by rw [g1, putE_length], fun t ht => ?_⟩
      rw [g2 t (fun o' ho' => ht o' (List.mem_cons_of_mem _ ho')), put .undef t (ht o (List.mem_cons_self ..))]
    · cases h
/-- What stands under a guard that says no is not looked at. -/
theorem skip_want {ops : Array Oper} {d : Nat} {want b : Bool} (hb : b ≠ want) {o : Oper} {seen : List Nat} {env : Env} (hg1 : (match (nrm ops.toList o).guard with
    | some (c, w) => (c == d && w == want) || seen.contains c
    | none => false) = true) (hd : env[d]? = some (.bool b)) (hs : ∀ t ∈ seen, env[t]? = some .undef) : wantE ops (look env) o = some false := by
  unfold nrm at hg1
  unfold wantE
  cases hgo : o.guard with
  | none => rw [hgo] at hg1; cases hg1
  | some p =>
    obtain ⟨j, w⟩ := p
    rw [hgo] at hg1
    simp only at hg1 ⊢
    cases hc : (ops.toList[j]?).bind (·.dst) with
    | none => rw [hc] at hg1; cases hg1
    | some c =>
      rw [hc] at hg1
      have hc' : (ops[j]?).bind (·.dst) = some c := by rw [← hc]; congr 1; simp
      rw [hc']
      simp only [Bool.or_eq_true, Bool.and_eq_true, beq_iff_eq, List.contains_eq_mem, decide_eq_true_eq] at hg1
      rcases hg1 with ⟨rfl, rfl⟩ | hm
      · have : look env c = some (.bool b) := hd
        simp only [this]
        simpa using hb
      · have : look env c = some .undef := hs c hm
        simp only [this]
theorem runL_skips {cf : CallF} {ops : Array Oper} {d : Nat} {want b : Bool} (hb : b ≠ want) : ∀ (l : List Oper) (seen : List Nat) (env : Env) (H : Heap), gated d want seen (l.map (nrm ops.toList)) = true → env[d]? = some (.bool b) → (∀ o ∈ l, o.dst ≠ some d) → (∀ t ∈ seen, env[t]? = some .undef) → (∀ o ∈ l, dstOk env.length o.dst = true) →
    ∃ env', runL E cf ops l env H = some (env', H, [])
  | [], seen, env, H, _, _, _, _, _ => ⟨env, rfl⟩
  | o :: l, seen, env, H, hg, hd, hn, hs, hl => by
    simp only [List.map_cons, gated, Bool.and_eq_true] at hg
    obtain ⟨hg1, hg2⟩ := hg
    have hw : wantE ops (look env) o = some false := skip_want hb hg1 hd hs
    simp only [runL, hw]
    have put : ∀ t, o.dst ≠ some t → (putE env o.dst .undef)[t]? = env[t]? := fun t ht => by
      cases hd : o.dst with
      | none => rfl
      | some d =>
        simp only [putE]
        rw [List.getElem?_set, if_neg (fun e => ht (by rw [hd, e]))]
    refine runL_skips hb l _ _ H hg2 ?_ (fun o' ho' => hn o' (List.mem_cons_of_mem _ ho')) ?_ (fun o' ho' => by rw [putE_length]; exact hl o' (List.mem_cons_of_mem _ ho'))
    · rw [put d (hn o (List.mem_cons_self ..))]
      exact hd
    · intro t ht
      have ht : t ∈ (match o.dst with | some t => t :: seen | none => seen) := ht
      cases hod : o.dst with
      | none =>
        rw [hod] at ht
        simp only [putE]
        exact hs t ht
      | some u =>
        rw [hod] at ht
        simp only [putE]
        rw [List.getElem?_set]
        by_cases e : u = t
        · subst e
          have := hl o (List.mem_cons_self ..)
          rw [hod] at this
          simp only [dstOk, decide_eq_true_eq] at this
          rw [if_pos rfl, if_pos this]
        · rw [if_neg e]
          rcases List.mem_cons.1 ht with rfl | ht
          · exact absurd rfl e
          · exact hs t ht

theorem splitBlk_spec {d : Nat} {want : Bool} : ∀ {l blk rest : List SOp} {p : SOp} {t : Nat} {x : Operand}, splitBlk d want l = some (blk, p, t, x, rest) → l = blk ++ p :: rest ∧ pickOf d want p = some (t, x)
  | [], _, _, _, _, _, h => by simp [splitBlk] at h
  | o :: l, blk, rest, p, t, x, h => by
    simp only [splitBlk] at h
    split at h
    · rename_i hp
      injection h with h; injection h with h1 h; injection h with h2 h; injection h with h3 h; injection h with h4 h5
      subst h1; subst h2; subst h3; subst h4; subst h5
      exact ⟨rfl, hp⟩
    · split at h
      · rename_i hs
        injection h with h; injection h with h1 h; injection h with h2 h; injection h with h3 h; injection h with h4 h5
        subst h1; subst h2; subst h3; subst h4; subst h5
        obtain ⟨e, hp⟩ := splitBlk_spec hs
        exact ⟨by rw [e]; rfl, hp⟩
      · cases h
theorem pickOf_spec {d : Nat} {want : Bool} {p : SOp} {t : Nat} {x : Operand} (h : pickOf d want p = some (t, x)) : p.dst = some t ∧ ((want = true ∧ p.op = .pick (.tmp d) x (.const (.bool false))) ∨ (want = false ∧ p.op = .pick (.tmp d) (.const (.bool true)) x)) := by
  unfold pickOf at h
  split at h
  · rename_i hd hop
    split at h
    · rename_i e
      subst e
      split at h
      · injection h with h; injection h with h1 h2
        subst h1; subst h2
        exact ⟨hd, .inl ⟨rfl, hop⟩⟩
      · injection h with h; injection h with h1 h2
        subst h1; subst h2
        exact ⟨hd, .inr ⟨rfl, hop⟩⟩
      · cases h
    · cases h
  · cases h

theorem skipE {ops : Array Oper} {H : Heap} {d : Nat} {want b : Bool} (hbw : b ≠ want) : ∀ (l : List Oper) (seen : List Nat) (env : Env), gated d want seen (l.map (nrm ops.toList)) = true → env[d]? = some (.bool b) → (∀ o ∈ l, o.dst ≠ some d) → (∀ t ∈ seen, env[t]? = some .undef) → (∀ o ∈ l, dstOk env.length o.dst = true) → ∀ (E1 E2 : EP) (f1 f2 : CallF), runL E1 f1 ops l env H = runL E2 f2 ops l env H := by
  intro l
  induction l with
  | nil => intro _ _ _ _ _ _ _ _ _ _ _; rfl
  | cons o' l ih =>
    intro seen env hg hd hn hs hl E1 E2 f1 f2
    obtain ⟨e1, r1⟩ := runL_skips (E := E1) (cf := f1) (b := b) hbw (o' :: l) seen env H hg hd hn hs hl
    obtain ⟨e2, r2⟩ := runL_skips (E := E2) (cf := f2) (b := b) hbw (o' :: l) seen env H hg hd hn hs hl
    have hg2 := hg
    simp only [List.map_cons, gated, Bool.and_eq_true] at hg2
    have hw : wantE ops (look env) o' = some false := skip_want hbw hg2.1 hd hs
    simp only [runL, hw]
    have put : ∀ t, o'.dst ≠ some t → (putE env o'.dst .undef)[t]? = env[t]? := fun t ht => by
      cases hd : o'.dst with
      | none => rfl
      | some d =>
        simp only [putE]
        rw [List.getElem?_set, if_neg (fun e => ht (by rw [hd, e]))]
    refine ih _ _ hg2.2 ?_ (fun o2 ho2 => hn o2 (List.mem_cons_of_mem _ ho2)) ?_ (fun o2 ho2 => by rw [putE_length]; exact hl o2 (List.mem_cons_of_mem _ ho2)) E1 E2 f1 f2
    · rw [put d (hn o' (List.mem_cons_self ..))]
      exact hd
    · intro t ht
      have ht : t ∈ (match o'.dst with | some t => t :: seen | none => seen) := ht
      cases hod : o'.dst with
      | none =>
        rw [hod] at ht
        simp only [putE]
        exact hs t ht
      | some u =>
        rw [hod] at ht
        simp only [putE]
        rw [List.getElem?_set]
        by_cases e : u = t
        · subst e
          have := hl o' (List.mem_cons_self ..)
          rw [hod] at this
          simp only [dstOk, decide_eq_true_eq] at this
          rw [if_pos rfl, if_pos this]
        · rw [if_neg e]
          rcases List.mem_cons.1 ht with rfl | ht
          · exact absurd rfl e
          · exact hs t ht

/-- A block and the pick that ends it. -/
theorem blk_step {ops : Array Oper} {kn : List (Nat × Bool)} (hok : nrmOk ops.toList) (hdst : ∀ o ∈ ops.toList, dstOk N o.dst = true) {blk : List Oper} {p : Oper} {M : Mm} {H : Heap} {env : Env} {b want r : Bool} {d t : Nat} {x : Operand} (hl : env.length = N) (hh : Has M env) (hkn : ∀ p ∈ kn, env[p.1]? = some (.bool p.2)) (hkd : ∀ o ∈ blk, ∀ p ∈ kn, o.dst ≠ some p.1) (hin : ∀ o ∈ blk ++ [p], o ∈ ops.toList) (hMd : M.lookup d = some (.bool b))
    (c1 : gated d want [] (blk.map (nrm ops.toList)) = true) (c2 : apart M (blk.map (nrm ops.toList)) = true) (c3 : guardOk kn (lk M) (nrm ops.toList p) = true) (hpick : pickOf d want (nrm ops.toList p) = some (t, x))
    (hr : b = want → ∃ env1, (∃ n0, ∀ m, n0 ≤ m → ∀ k, n0 ≤ k → runL { E.at m with vm := vm } (cfAt E D m k) ops blk env H = some (env1, H, [])) ∧ evO E.G (look env1) x = some (.bool r)) (hr' : b ≠ want → r = !want) :
    ∃ env2, (∃ n0, ∀ m, n0 ≤ m → ∀ k, n0 ≤ k → runL { E.at m with vm := vm } (cfAt E D m k) ops (blk ++ [p]) env H = some (env2, H, [])) ∧ env2.length = N ∧ Has ((t, .bool r) :: M) env2 := by
  obtain ⟨hpd0, hpop0⟩ := pickOf_spec hpick
  have hpd : p.dst = some t := hpd0
  have hpop : (want = true ∧ p.op = .pick (.tmp d) x (.const (.bool false))) ∨ (want = false ∧ p.op = .pick (.tmp d) (.const (.bool true)) x) := hpop0
  clear hpop0 hpd0
  have hinb : ∀ o ∈ blk, o ∈ ops.toList := fun o' ho' => hin o' (List.mem_append_left _ ho')
  have c4 : dstOk N (some t) = true := by
    have := hdst p (hin p (by simp))
    rw [hpd] at this
    exact this
  have hap : ∀ o ∈ blk, ∀ u v, M.lookup u = some v → o.dst ≠ some u := by
    intro o' ho' u v hu e
    have := apart_mem c2 (nrm ops.toList o') (List.mem_map_of_mem ho') u e
    rw [hu] at this
    cases this
  have hex : ∃ env1, (∃ n0, ∀ m, n0 ≤ m → ∀ k, n0 ≤ k → runL { E.at m with vm := vm } (cfAt E D m k) ops blk env H = some (env1, H, [])) ∧ (b = want → evO E.G (look env1) x = some (.bool r)) := by
    by_cases hbw : b = want
    · obtain ⟨env1, h1, h2⟩ := hr hbw
      exact ⟨env1, h1, fun _ => h2⟩
    · have hdnone : ∀ o' ∈ blk, o'.dst ≠ some d := fun o' ho' => hap o' ho' d _ hMd
      have hdk : ∀ o' ∈ blk, dstOk env.length o'.dst = true := fun o' ho' => by rw [hl]; exact hdst o' (hinb o' ho')
      obtain ⟨env1, h1⟩ := runL_skips (E := { E.at 0 with vm := vm }) (cf := cfAt E D 0 0) (b := b) hbw blk [] env H c1 (hh d _ hMd) hdnone (fun _ h => by cases h) hdk
      refine ⟨env1, ⟨0, fun m _ k _ => ?_⟩, fun h => absurd h hbw⟩
      rw [← h1]
      exact skipE hbw blk [] env c1 (hh d _ hMd) hdnone (fun _ h => by cases h) hdk _ _ _ _
  obtain ⟨env1, ⟨n1, k1⟩, hx1⟩ := hex
  obtain ⟨q1, q2⟩ := runL_keeps _ _ _ _ _ _ (k1 n1 (Nat.le_refl _) n1 (Nat.le_refl _))
  have hh1 : Has M env1 := fun u v hu => by
    rw [q2 u (fun o' ho' => hap o' ho' u v hu)]
    exact hh u v hu
  have hl1 : env1.length = N := by rw [q1]; exact hl
  have hwp : wantE ops (look env1) p = some true := by
    obtain ⟨p1, p2, p3⟩ := guardF_ok hok (kn := kn) (fun q hq => by rw [q2 q.1 (fun o' ho' => hkd o' ho' q hq)]; exact hkn q hq) hh1 (hin p (by simp))
    unfold guardOk at c3
    split at c3
    · exact p1 (by assumption)
    · rename_i b2 d2 w2 hgp
      rw [(p3 _ _ _ hgp).1, c3]
    · cases c3
  have hdv : look env1 d = some (.bool b) := hh1 d _ hMd
  have hstep : ∀ m k, stepE { E.at m with vm := vm } (cfAt E D m k) (look env1) H p.op = some (.bool r, H, []) := by
    intro m k
    have e1 : evO (E.at m).G (look env1) (.tmp d) = some (.bool b) := hdv
    have e2 : ∀ c, evO (E.at m).G (look env1) (.const (.bool c)) = some (.bool c) := fun _ => rfl
    rcases hpop with ⟨rfl, hpop⟩ | ⟨rfl, hpop⟩ <;> rw [hpop] <;> unfold stepE <;> simp only [opE, e1] <;> cases b
    · simp only [hr' (by simp), Bool.not_true, e2, pureR]
    · have e : evO (E.at m).G (look env1) x = some (.bool r) := hx1 rfl
      simp only [e, pureR]
    · have e : evO (E.at m).G (look env1) x = some (.bool r) := hx1 rfl
      simp only [e, pureR]
    · simp only [hr' (by simp), Bool.not_false, e2, pureR]
  refine ⟨putE env1 p.dst (.bool r), ⟨n1, fun m hm k hk => ?_⟩, by rw [putE_length]; exact hl1, ?_⟩
  · rw [runL_append]
    simp only [k1 m hm k hk, runL, hwp, hstep m k, List.nil_append]
  · have := hh1.put (dst := some t) (v := .bool r) (by rw [hl1]; exact c4)
    rw [hpd]
    exact this

open Classical in
theorem blkV_ok {ops : Array Oper} (hok : nrmOk ops.toList) (hdst : ∀ o ∈ ops.toList, dstOk N o.dst = true) : ∀ (n : Nat) (kn : List (Nat × Bool)) (l : List Oper) (M : Mm) (H : Heap) (x : Operand) (r : Bool), (∀ o ∈ l, o ∈ ops.toList) → (∀ o ∈ l, ∀ p ∈ kn, o.dst ≠ some p.1) → blkV E D vm n kn (l.map (nrm ops.toList)) M H x = some r → ∀ env : Env, env.length = N → Has M env → (∀ p ∈ kn, env[p.1]? = some (.bool p.2)) →
    ∃ env', (∃ n0, ∀ m, n0 ≤ m → ∀ k, n0 ≤ k → runL { E.at m with vm := vm } (cfAt E D m k) ops l env H = some (env', H, [])) ∧ evO E.G (look env') x = some (.bool r)
  | 0, _, _, _, _, _, _, _, _, h, _, _, _, _ => by simp [blkV] at h
  | n + 1, kn, [], M, H, x, r, _, _, h, env, hl, hh, _ => by
    simp only [List.map_nil, blkV] at h
    split at h
    · rename_i r' hx
      injection h with h
      subst h
      exact ⟨env, ⟨0, fun _ _ _ _ => rfl⟩, evO_mono (fun t v h => hh t v h) hx⟩
    · cases h
  | n + 1, kn, o :: rest, M, H, x, r, hin, hkd, h, env, hl, hh, hkn => by
    have hd : dstOk N o.dst = true := hdst o (hin o (List.mem_cons_self ..))
    have hin' : ∀ o ∈ rest, o ∈ ops.toList := fun o ho => hin o (List.mem_cons_of_mem _ ho)
    simp only [List.map_cons, blkV, show (nrm ops.toList o).dst = o.dst from rfl, show (nrm ops.toList o).op = o.op from rfl] at h
    obtain ⟨g1, g2, g3⟩ := guardF_ok hok hkn hh (hin o (List.mem_cons_self ..))
    have hlk : ∀ t v, lk M t = some v → look env t = some v := fun t v h => hh t v h
    have go : ∀ v, (match o.dst with
        | some d => blkV E D vm n kn (rest.map (nrm ops.toList)) ((d, v) :: M) H x
        | none => blkV E D vm n kn (rest.map (nrm ops.toList)) M H x) = some r → ∃ env', (∃ n0, ∀ m, n0 ≤ m → ∀ k, n0 ≤ k → runL { E.at m with vm := vm } (cfAt E D m k) ops rest (putE env o.dst v) H = some (env', H, [])) ∧ evO E.G (look env') x = some (.bool r) := by
      intro v h
      have h' : blkV E D vm n kn (rest.map (nrm ops.toList)) (putM M o.dst v) H x = some r := by
        cases hod : o.dst with
        | none => rw [hod] at h; exact h
        | some d => rw [hod] at h; exact h
      refine blkV_ok hok hdst n kn rest _ _ _ _ hin' (fun o' ho' => hkd o' (List.mem_cons_of_mem _ ho')) h' (putE env o.dst v) (by rw [putE_length]; exact hl) (hh.put (by rw [hl]; exact hd)) (fun q hq => ?_)
      have hne := hkd o (List.mem_cons_self ..) q hq
      cases hod : o.dst with
      | none => exact hkn q hq
      | some d =>
        simp only [putE]
        rw [List.getElem?_set, if_neg (fun e => hne (by rw [hod, e]))]
        exact hkn q hq
    have yes : wantE ops (look env) o = some true → (match stepF E D vm (lk M) H o.op with
        | some (v, H1, []) => if H1 = H then match o.dst with
            | some d => blkV E D vm n kn (rest.map (nrm ops.toList)) ((d, v) :: M) H x
            | none => blkV E D vm n kn (rest.map (nrm ops.toList)) M H x
          else none
        | _ => none) = some r → ∃ env', (∃ n0, ∀ m, n0 ≤ m → ∀ k, n0 ≤ k → runL { E.at m with vm := vm } (cfAt E D m k) ops (o :: rest) env H = some (env', H, [])) ∧ evO E.G (look env') x = some (.bool r) := by
      intro hw h
      split at h
      · rename_i v H1 hs
        split at h
        · rename_i hH
          subst hH
          obtain ⟨n1, k1⟩ := stepF_ok hlk hs
          obtain ⟨env', ⟨n2, k2⟩, k3⟩ := go v h
          refine ⟨env', ⟨max n1 n2, fun m hm k hk => ?_⟩, k3⟩
          simp only [runL, hw, k1 m (by omega) k (by omega), k2 m (by omega) k (by omega), List.nil_append]
        · cases h
      · cases h
    have no : wantE ops (look env) o = some false → (match o.dst with
        | some d => blkV E D vm n kn (rest.map (nrm ops.toList)) ((d, .undef) :: M) H x
        | none => blkV E D vm n kn (rest.map (nrm ops.toList)) M H x) = some r → ∃ env', (∃ n0, ∀ m, n0 ≤ m → ∀ k, n0 ≤ k → runL { E.at m with vm := vm } (cfAt E D m k) ops (o :: rest) env H = some (env', H, [])) ∧ evO E.G (look env') x = some (.bool r) := by
      intro hw h
      obtain ⟨env', ⟨n2, k2⟩, k3⟩ := go .undef h
      refine ⟨env', ⟨n2, fun m hm k hk => ?_⟩, k3⟩
      simp only [runL, hw, k2 m hm k hk]
    cases hg : guardF kn (lk M) (nrm ops.toList o) with
    | yes => simp only [hg] at h; exact yes (g1 hg) h
    | no => simp only [hg] at h; exact no (g2 hg) h
    | bad => simp only [hg] at h; cases h
    | may b d want =>
      simp only [hg] at h
      obtain ⟨hw, hMd⟩ := g3 b d want hg
      split at h
      · rename_i blk' p' t y rest2 hsp
        split at h
        · rename_i hchk
          simp only [Bool.and_eq_true] at hchk
          obtain ⟨⟨c1, c2⟩, c3⟩ := hchk
          obtain ⟨hsplit', hpick⟩ := splitBlk_spec hsp
          rw [← List.map_cons, List.map_eq_append_iff] at hsplit'
          obtain ⟨blk, l2, hsplit, rfl, hl2⟩ := hsplit'
          rw [List.map_eq_cons_iff] at hl2
          obtain ⟨p, rest', rfl, rfl, rfl⟩ := hl2
          have hinb : ∀ o ∈ blk ++ [p], o ∈ ops.toList := fun o' ho' => hin o' (by rw [hsplit]; simp only [List.mem_append, List.mem_cons, List.not_mem_nil, or_false] at ho' ⊢; rcases ho' with h | h; exact .inl h; exact .inr (.inl h))
          have hinr : ∀ o ∈ rest', o ∈ ops.toList := fun o' ho' => hin o' (by rw [hsplit]; exact List.mem_append_right _ (List.mem_cons_of_mem _ ho'))
          split at h
          · rename_i r1 hr1
            obtain ⟨env2, ⟨n1, k1⟩, e1, e2⟩ := blk_step (E := E) (D := D) (vm := vm) (r := r1) hok hdst hl hh hkn (fun o' ho' => hkd o' (by rw [hsplit]; exact List.mem_append_left _ ho')) hinb hMd c1 c2 c3 hpick (fun hbw => by
              rw [if_pos hbw] at hr1
              refine blkV_ok hok hdst n ((d, want) :: kn) blk _ _ _ _ (fun o ho => hinb o (List.mem_append_left _ ho)) (fun o' ho' q hq => ?_) hr1 env hl hh (fun q hq => ?_)
              · rcases List.mem_cons.1 hq with rfl | hq
                · intro e
                  have := apart_mem c2 (nrm ops.toList o') (List.mem_map_of_mem ho') _ e
                  rw [hMd] at this
                  cases this
                · exact hkd o' (by rw [hsplit]; exact List.mem_append_left _ ho') q hq
              · rcases List.mem_cons.1 hq with rfl | hq
                · exact hbw ▸ hh d _ hMd
                · exact hkn q hq) (fun hbw => by
              rw [if_neg hbw] at hr1
              injection hr1 with hr1
              exact hr1.symm)
            have hkn2 : ∀ q ∈ kn, env2[q.1]? = some (.bool q.2) := fun q hq => by
              rw [(runL_keeps _ _ _ _ _ _ (k1 n1 (Nat.le_refl _) n1 (Nat.le_refl _))).2 q.1 (fun o' ho' => hkd o' (by rw [hsplit]; simp only [List.mem_append, List.mem_cons, List.not_mem_nil, or_false] at ho' ⊢; rcases ho' with h | h; exact .inl h; exact .inr (.inl h)) q hq)]
              exact hkn q hq
            obtain ⟨env', ⟨n2, k2⟩, k3⟩ := blkV_ok hok hdst n kn rest' _ _ _ _ hinr (fun o' ho' => hkd o' (by rw [hsplit]; exact List.mem_append_right _ (List.mem_cons_of_mem _ ho'))) h env2 e1 e2 hkn2
            refine ⟨env', ⟨max n1 n2, fun m hm k hk => ?_⟩, k3⟩
            rw [hsplit, show blk ++ p :: rest' = (blk ++ [p]) ++ rest' by simp, runL_append]
            simp only [k1 m (by omega) k (by omega), k2 m (by omega) k (by omega), List.nil_append]
          · cases h
        · cases h
      · by_cases hbw : b = want
        · rw [if_pos hbw] at h
          exact yes (by rw [hw, hbw]; simp) h
        · rw [if_neg hbw] at h
          exact no (by rw [hw]; simpa using hbw) h

theorem opsC_ok {ops : Array Oper} (hok : nrmOk ops.toList) (hdst : ∀ o ∈ ops.toList, dstOk N o.dst = true) : ∀ (n : Nat) (l : List Oper) (M : Mm) (H : Heap) (W : List Nat) (K : Mm → Heap → List Nat → Prop), (∀ o ∈ l, o ∈ ops.toList) → opsC E D vm n (l.map (nrm ops.toList)) M H W K → ∀ env : Env, env.length = N → Has M env →
    ∃ (env' : Env) (M' : Mm) (H' : Heap) (W' : List Nat), (∃ n0, ∀ m, n0 ≤ m → ∀ k, n0 ≤ k → runL { E.at m with vm := vm } (cfAt E D m k) ops l env H = some (env', H', W')) ∧ env'.length = N ∧ Has M' env' ∧ K M' H' (W ++ W')
  | 0, _, _, _, _, _, _, h, _, _, _ => by simp [opsC] at h
  | n + 1, [], M, H, W, K, _, h, env, hl, hh => by
    simp only [List.map_nil, opsC] at h
    exact ⟨env, M, H, [], ⟨0, fun _ _ _ _ => rfl⟩, hl, hh, by simpa using h⟩
  | n + 1, o :: rest, M, H, W, K, hin, h, env, hl, hh => by
    have hd : dstOk N o.dst = true := hdst o (hin o (List.mem_cons_self ..))
    have hin' : ∀ o ∈ rest, o ∈ ops.toList := fun o ho => hin o (List.mem_cons_of_mem _ ho)
    simp only [List.map_cons, opsC, show (nrm ops.toList o).dst = o.dst from rfl, show (nrm ops.toList o).op = o.op from rfl] at h
    obtain ⟨g1, g2, g3⟩ := guardF_ok hok (kn := []) (fun _ h => by cases h) hh (hin o (List.mem_cons_self ..))
    have hlk : ∀ t v, lk M t = some v → look env t = some v := fun t v h => hh t v h
    have go : ∀ v H1 W1, (match o.dst with
        | some d => opsC E D vm n (rest.map (nrm ops.toList)) ((d, v) :: M) H1 W1 K
        | none => opsC E D vm n (rest.map (nrm ops.toList)) M H1 W1 K) → ∃ (env' : Env) (M' : Mm) (H' : Heap) (W' : List Nat), (∃ n0, ∀ m, n0 ≤ m → ∀ k, n0 ≤ k → runL { E.at m with vm := vm } (cfAt E D m k) ops rest (putE env o.dst v) H1 = some (env', H', W')) ∧ env'.length = N ∧ Has M' env' ∧ K M' H' (W1 ++ W') := by
      intro v H1 W1 h
      have h' : opsC E D vm n (rest.map (nrm ops.toList)) (putM M o.dst v) H1 W1 K := by
        cases hod : o.dst with
        | none => rw [hod] at h; exact h
        | some d => rw [hod] at h; exact h
      exact opsC_ok hok hdst n rest _ _ _ _ hin' h' (putE env o.dst v) (by rw [putE_length]; exact hl) (hh.put (by rw [hl]; exact hd))
    have yes : wantE ops (look env) o = some true → (match stepF E D vm (lk M) H o.op with
        | some (v, H1, W1) => match o.dst with
          | some d => opsC E D vm n (rest.map (nrm ops.toList)) ((d, v) :: M) H1 (W ++ W1) K
          | none => opsC E D vm n (rest.map (nrm ops.toList)) M H1 (W ++ W1) K
        | none => False) → ∃ (env' : Env) (M' : Mm) (H' : Heap) (W' : List Nat), (∃ n0, ∀ m, n0 ≤ m → ∀ k, n0 ≤ k → runL { E.at m with vm := vm } (cfAt E D m k) ops (o :: rest) env H = some (env', H', W')) ∧ env'.length = N ∧ Has M' env' ∧ K M' H' (W ++ W') := by
      intro hw h
      split at h
      · rename_i v H1 W1 hs
        obtain ⟨n1, k1⟩ := stepF_ok hlk hs
        obtain ⟨env', M', H', W', ⟨n2, k2⟩, k3, k4, k5⟩ := go v H1 _ h
        refine ⟨env', M', H', W1 ++ W', ⟨max n1 n2, fun m hm k hk => ?_⟩, k3, k4, by rw [← List.append_assoc]; exact k5⟩
        simp only [runL, hw, k1 m (by omega) k (by omega), k2 m (by omega) k (by omega)]
      · exact h.elim
    have no : wantE ops (look env) o = some false → (match o.dst with
        | some d => opsC E D vm n (rest.map (nrm ops.toList)) ((d, .undef) :: M) H W K
        | none => opsC E D vm n (rest.map (nrm ops.toList)) M H W K) → ∃ (env' : Env) (M' : Mm) (H' : Heap) (W' : List Nat), (∃ n0, ∀ m, n0 ≤ m → ∀ k, n0 ≤ k → runL { E.at m with vm := vm } (cfAt E D m k) ops (o :: rest) env H = some (env', H', W')) ∧ env'.length = N ∧ Has M' env' ∧ K M' H' (W ++ W') := by
      intro hw h
      obtain ⟨env', M', H', W', ⟨n2, k2⟩, k3, k4, k5⟩ := go .undef H W h
      refine ⟨env', M', H', W', ⟨n2, fun m hm k hk => ?_⟩, k3, k4, k5⟩
      simp only [runL, hw, k2 m hm k hk]
    cases hg : guardF [] (lk M) (nrm ops.toList o) with
    | yes => simp only [hg] at h; exact yes (g1 hg) h
    | no => simp only [hg] at h; exact no (g2 hg) h
    | bad => simp only [hg] at h
    | may b d want =>
      simp only [hg] at h
      obtain ⟨hw, hMd⟩ := g3 b d want hg
      split at h
      · rename_i blk' p' t y rest2 hsp
        split at h
        · rename_i hchk
          simp only [Bool.and_eq_true] at hchk
          obtain ⟨⟨c1, c2⟩, c3⟩ := hchk
          obtain ⟨hsplit', hpick⟩ := splitBlk_spec hsp
          rw [← List.map_cons, List.map_eq_append_iff] at hsplit'
          obtain ⟨blk, l2, hsplit, rfl, hl2⟩ := hsplit'
          rw [List.map_eq_cons_iff] at hl2
          obtain ⟨p, rest', rfl, rfl, rfl⟩ := hl2
          have hinb : ∀ o ∈ blk ++ [p], o ∈ ops.toList := fun o' ho' => hin o' (by rw [hsplit]; simp only [List.mem_append, List.mem_cons, List.not_mem_nil, or_false] at ho' ⊢; rcases ho' with h | h; exact .inl h; exact .inr (.inl h))
          have hinr : ∀ o ∈ rest', o ∈ ops.toList := fun o' ho' => hin o' (by rw [hsplit]; exact List.mem_append_right _ (List.mem_cons_of_mem _ ho'))
          split at h
          · rename_i r1 hr1
            obtain ⟨env2, ⟨n1, k1⟩, e1, e2⟩ := blk_step (E := E) (D := D) (vm := vm) (kn := []) (r := r1) hok hdst hl hh (fun _ h => by cases h) (fun _ _ _ h => by cases h) hinb hMd c1 c2 c3 hpick (fun hbw => by
              rw [if_pos hbw] at hr1
              refine blkV_ok hok hdst n [(d, want)] blk _ _ _ _ (fun o ho => hinb o (List.mem_append_left _ ho)) (fun o' ho' q hq => ?_) hr1 env hl hh (fun q hq => ?_)
              · rw [List.mem_singleton] at hq
                subst hq
                intro e
                have := apart_mem c2 (nrm ops.toList o') (List.mem_map_of_mem ho') _ e
                rw [hMd] at this
                cases this
              · rw [List.mem_singleton] at hq
                subst hq
                exact hbw ▸ hh d _ hMd) (fun hbw => by
              rw [if_neg hbw] at hr1
              injection hr1 with hr1
              exact hr1.symm)
            obtain ⟨env', M', H', W', ⟨n2, k2⟩, k3, k4, k5⟩ := opsC_ok hok hdst n rest' _ _ _ _ hinr h env2 e1 e2
            refine ⟨env', M', H', W', ⟨max n1 n2, fun m hm k hk => ?_⟩, k3, k4, k5⟩
            rw [hsplit, show blk ++ p :: rest' = (blk ++ [p]) ++ rest' by simp, runL_append]
            simp only [k1 m (by omega) k (by omega), k2 m (by omega) k (by omega), List.nil_append]
          · exact h.elim
        · exact h.elim
      · by_cases hbw : b = want
        · exact yes (by rw [hw, hbw]; simp) (h.1 hbw)
        · exact no (by rw [hw]; simpa using hbw) (h.2 hbw)

theorem opsE_runL {cf : CallF} {ops : Array Oper} : ∀ (n i : Nat) (env : Env) (H : Heap), i + n = ops.size → opsE E cf ops (List.range' i n) env H = runL E cf ops (ops.toList.drop i) env H := by
  intro n
  induction n with
  | zero =>
    intro i env H hi
    rw [List.drop_of_length_le (by simp; omega)]
    rfl
  | succ n ih =>
    intro i env H hi
    have hlt : i < ops.toList.length := by simp; omega
    rw [List.drop_eq_getElem_cons hlt]
    have ho : ops[i]? = some ops.toList[i] := by simp
    simp only [List.range'_succ, opsE, ho, runL]
    cases wantE ops (look env) ops.toList[i] with
    | none => rfl
    | some w =>
      cases w with
      | true =>
        simp only
        cases stepE E cf (look env) H ops.toList[i].op with
        | none => rfl
        | some r =>
          obtain ⟨v, H1, W1⟩ := r
          simp only [ih (i + 1) _ _ (by omega)]
          cases runL E cf ops (List.drop (i + 1) ops.toList) (putE env ops.toList[i].dst v) H1 with
          | none => rfl
          | some r => rfl
      | false => simp only [ih (i + 1) _ _ (by omega)]

/-- A region's operations without what does not matter; how many they are. -/
def normL (ops : List Oper) (N : Nat) : List Oper → Option (List SOp × Nat)
  | [] => some ([], 1)
  | o :: rest => match o.guard with
    | none => if dstOk N o.dst = true then match normL ops N rest with
        | some (l, n) => some (⟨none, o.dst, o.op⟩ :: l, n + 1)
        | none => none
      else none
    | some (j, w) => match (ops[j]?).bind (·.dst) with
      | some d => if dstOk N o.dst = true then match normL ops N rest with
          | some (l, n) => some (⟨some (d, w), o.dst, o.op⟩ :: l, n + 1)
          | none => none
        else none
      | none => none
theorem normL_spec {ops : List Oper} {N : Nat} : ∀ {l : List Oper} {l' : List SOp} {n : Nat}, normL ops N l = some (l', n) → l' = l.map (nrm ops) ∧ ∀ o ∈ l, dstOk N o.dst = true ∧ ∀ j w, o.guard = some (j, w) → ((ops[j]?).bind (·.dst)).isSome = true
  | [], l', n, h => by
    simp only [normL] at h
    injection h with h; injection h with h _
    subst h
    exact ⟨rfl, fun o ho => by cases ho⟩
  | o :: rest, l', n, h => by
    simp only [normL] at h
    split at h
    · rename_i hg
      split at h
      · rename_i hd
        split at h
        · rename_i l n' hr
          injection h with h; injection h with h _
          subst h
          obtain ⟨e, hall⟩ := normL_spec hr
          refine ⟨by rw [e]; simp [nrm, hg], fun o' ho' => ?_⟩
          rcases List.mem_cons.1 ho' with rfl | ho'
          · exact ⟨hd, fun j w e => by rw [hg] at e; cases e⟩
          · exact hall o' ho'
        · cases h
      · cases h
    · rename_i j w hg
      split at h
      · rename_i d hjd
        split at h
        · rename_i hd
          split at h
          · rename_i l n' hr
            injection h with h; injection h with h _
            subst h
            obtain ⟨e, hall⟩ := normL_spec hr
            refine ⟨by rw [e]; simp [nrm, hg, hjd], fun o' ho' => ?_⟩
            rcases List.mem_cons.1 ho' with rfl | ho'
            · exact ⟨hd, fun j' w' e => by rw [hg] at e; injection e with e; injection e with e1 e2; subst e1; rw [hjd]; rfl⟩
            · exact hall o' ho'
          · cases h
        · cases h
      · cases h
/-- A region over known temporaries. -/
theorem CodeM.regC {id : Nat} {ops : Array Oper} {M : Mm} {H : Heap} {K : EX → Mm → Heap → List Nat → Prop} {l : List SOp} {n : Nat} (hn : normL ops.toList N ops.toList = some (l, n)) (h : opsC E D vm n l M H [] fun M' H' W => K .normal M' H' W) :
    CodeM E D vm N (.region id ops false) M H K := by
  obtain ⟨rfl, hall⟩ := normL_spec hn
  intro env hl hh
  obtain ⟨env', M', H', W, ⟨n, h1⟩, h2, h3, h4⟩ := opsC_ok (fun o ho => (hall o ho).2) (fun o ho => (hall o ho).1) _ _ _ _ _ _ (fun _ h => h) h env hl hh
  refine ⟨.normal, env', H', W, M', ⟨n, fun m hm k hk => ?_⟩, h2, h3, h4⟩
  have := opsE_runL (E := { E.at m with vm := vm }) (cf := cfAt E D m k) (ops := ops) ops.size 0 env H (by omega)
  rw [← List.range_eq_range', List.drop_zero, h1 m hm k hk] at this
  simp only [cdAt, codeE, this]
end
end Go.Ev
end

/- The evaluator E: weakest preconditions that a simplifier can unfold. -/
section
namespace Go.Ev
open Go
set_option linter.unusedSimpArgs false
set_option linter.unusedVariables false

section
variable (E : EP) (D : EP → CallF → DrawF)

def wantP (ops : List Oper) (l : Look) (o : Oper) (A B : Prop) : Prop :=
  match o.guard with
  | none => A
  | some (j, want) => match (ops[j]?).bind (·.dst) with
    | some d => match l d with
      | some (.bool b) => (b = want → A) ∧ (¬ b = want → B)
      | some .undef => B
      | _ => False
    | none => False

def stepP (vm : Bool) (l : Look) (H : Heap) (op : Op) (Q : EV → Heap → List Nat → Prop) : Prop :=
  match op with
  | .call { callee := .value f, args := as, .. } => match evO E.G l f, evL E.G l as.toList with
    | some (.fn g a b), some vs => match some (a ++ vs ++ b) with
      | some args => match CallV E D g args H with
        | some (v, H1, W1) => Q v H1 W1
        | none => False
      | none => False
    | _, _ => False
  | .pick c a b => match evO E.G l c, evO E.G l a, evO E.G l b with
    | some (.bool c), some x, some y => (c = true → Q x H []) ∧ (¬ c = true → Q y H [])
    | _, _, _ => False
  | op => match opE { E with vm := vm } l H op with
    | some (v, H1, W1) => Q v H1 W1
    | none => False

def opsP (vm : Bool) (N : Nat) (ops : List Oper) : List Oper → Mm → Heap → (Mm → Heap → List Nat → Prop) → Prop
  | [], M, H, K => K M H []
  | o :: rest, M, H, K => dstOk N o.dst = true ∧ wantP ops (lk M) o (stepP E D vm (lk M) H o.op fun v H1 W1 => opsP vm N ops rest (putM M o.dst v) H1 fun M2 H2 W2 => K M2 H2 (W1 ++ W2)) (opsP vm N ops rest (putM M o.dst .undef) H K)

/-- A region that draws its order and does not write. -/
def quietP (N : Nat) (ops : Array Oper) (H : Heap) : List Oper → Mm → (Mm → Prop) → Prop
  | [], M, K => K M
  | o :: rest, M, K => dstOk N o.dst = true ∧ wantP ops.toList (restrM (o.looksAt ops) M) o (stepP E D E.vm (restrM (o.looksAt ops) M) H o.op fun v H1 W1 => H1 = H ∧ W1 = [] ∧ quietP N ops H rest (putM M o.dst v) K) (quietP N ops H rest (putM M o.dst .undef) K)

/-- One that writes. -/
def draw2P (N : Nat) (ops : Array Oper) (base : Nat) (H1 : Heap) (Wl : List Nat) : List Oper → Nat → Mm → Heap → List Nat → (Mm → Heap → List Nat → Prop) → Prop
  | [], _, M, Hc, W, K => K M Hc W
  | o :: rest, i, M, Hc, W, K => dstOk N o.dst = true ∧ match birthAt E.T ops i with
      | some _ => draw2P N ops base H1 Wl rest (i + 1) (putM M o.dst (.ptr (base + (bornBefore E.T ops i).length) 0)) Hc W K
      | none => wantP ops.toList (restrM (o.looksAt ops) M) o
        (if isActive o.op = true then
            if isCallV o.op = true then stepP E D E.vm (restrM (o.looksAt ops) M) (lookH E.T ops base o Hc) o.op fun v H' W' => if bornBefore E.T ops ops.size = [] then draw2P N ops base H1 Wl rest (i + 1) (putM M o.dst v) H' (W ++ W') K else W' = [] ∧ (finishE 0 (lookH E.T ops base o Hc) H' [] v).2.2 = [] ∧ (finishE 0 (lookH E.T ops base o Hc) H' [] v).2.1.length = (lookH E.T ops base o Hc).length ∧ draw2P N ops base H1 Wl rest (i + 1) (putM M o.dst (finishE 0 (lookH E.T ops base o Hc) H' [] v).1) Hc W K
            else match opE E (restrM (o.looksAt ops) M) (lookH E.T ops base o Hc) o.op with
              | some (v, _, W') => (W'.all fun p => !deadAt (lookH E.T ops base o Hc) p) = true ∧ match opE E (restrM (o.looksAt ops) M) Hc o.op with
                | some (_, H2, _) => draw2P N ops base H1 Wl rest (i + 1) (putM M o.dst v) H2 (W ++ W') K
                | none => False
              | none => False
          else stepP E D E.vm (restrM (o.looksAt ops) M) (passH E.T ops base H1 Wl i) o.op fun v H' W' => W' = [] ∧ H'.length = H1.length ∧ draw2P N ops base H1 Wl rest (i + 1) (putM M o.dst v) Hc W K)
        (draw2P N ops base H1 Wl rest (i + 1) (putM M o.dst .undef) Hc W K)
def isQuiet (ops : Array Oper) : Bool := calm ops && !wrt ops
def isWrt (ops : Array Oper) : Bool := calm ops && lined ops && wrt ops

/-- A region. -/
noncomputable def regP (vm : Bool) (N : Nat) (ops : List Oper) (M : Mm) (H : Heap) (K : EX → Mm → Heap → List Nat → Prop) : Prop :=
  match normL ops N ops with
    | some (l, n) => opsC E D vm n l M H [] fun M1 H1 W1 => K .normal M1 H1 W1
    | none => False
def seqK (f : Mm → Heap → (EX → Mm → Heap → List Nat → Prop) → Prop) (K : EX → Mm → Heap → List Nat → Prop) : EX → Mm → Heap → List Nat → Prop
  | .normal, M, H, W => f M H fun y M2 H2 W2 => K y M2 H2 (W ++ W2)
  | .exit id, M, H, W => K (.exit id) M H W
  | .ret, M, H, W => K .ret M H W

/-- An array's list (the simplifier does not see through it too early). -/
def toL (ops : Array Oper) : Option (List Oper) := some ops.toList
/-- Wl: what is written is of it. -/
def draw2R (N : Nat) (ops : Array Oper) (M : Mm) (H : Heap) (K : EX → Mm → Heap → List Nat → Prop) : Prop :=
  ∃ Wl, match toL ops with
    | some l => draw2P E D N ops H.length (H ++ bornCells E.T ops) Wl l 0 M (H ++ bornCells E.T ops) [] fun M' H' W => (∀ x ∈ W, x ∈ Wl) ∧ K .normal M' H' W
    | none => False
def drawP (N : Nat) (ops : Array Oper) (M : Mm) (H : Heap) (K : EX → Mm → Heap → List Nat → Prop) : Prop :=
  if wrt ops = true then isWrt ops = true ∧ draw2R E D N ops M H K
  else isQuiet ops = true ∧ match toL ops with
    | some l => quietP E D N ops H l M fun M' => K .normal M' H []
    | none => False

def codeP (vm : Bool) (N : Nat) : Code → Mm → Heap → (EX → Mm → Heap → List Nat → Prop) → Prop
  | .skip, M, H, K => K .normal M H []
  | .exit id, M, H, K => K (.exit id) M H []
  | .ret, M, H, K => K .ret M H []
  | .region _ ops false, M, H, K => regP E D vm N ops.toList M H K
  | .region _ ops true, M, H, K => drawP E D N ops M H K
  | .seq a b, M, H, K => codeP vm N a M H (seqK (codeP vm N b) K)
  | .cond c a b, M, H, K => match evO E.G (lk M) c with
    | some (.bool t) => (t = true → codeP vm N a M H K) ∧ (¬ t = true → codeP vm N b M H K)
    | _ => False
  | .block id c, M, H, K => codeP vm N c M H (blockM id K)
  | .loop c, M, H, K => LoopM E D vm N c M H K
  | c, M, H, K => CodeM E D vm N c M H K
end

section
variable {E : EP} {D : EP → CallF → DrawF} {vm : Bool} {N : Nat}

theorem stepP_ok {l : Look} {H : Heap} {op : Op} {Q : EV → Heap → List Nat → Prop} (h : stepP E D vm l H op Q) : stepW E D vm l H op Q := by
  unfold stepP at h
  split at h
  · split at h
    · rename_i h1 h2
      unfold stepW
      simp only [h1, h2]
      dsimp only at h
      split at h
      · rename_i hv
        exact ⟨_, _, _, CallV.spec hv, h⟩
      · exact h.elim
    · exact h.elim
  · split at h
    · rename_i c x y h1 h2 h3
      have e2 : evO E.G l _ = _ := h2
      have e3 : evO E.G l _ = _ := h3
      unfold stepW opE
      cases c with
      | true => simp only [h1, h2, pureR]; exact h.1 rfl
      | false => simp only [h1, h3, pureR]; exact h.2 (by simp)
    · exact h.elim
  · rename_i hne _
    split at h
    · rename_i v H1 W1 hop
      unfold stepW
      split
      · exact (hne _ _ _ rfl).elim
      · rw [hop]
        exact h
    · exact h.elim

theorem wantP_ok {ops : Array Oper} {l : Look} {o : Oper} {A B : Prop} (h : wantP ops.toList l o A B) : (wantE ops l o = some true ∧ A) ∨ (wantE ops l o = some false ∧ B) := by
  unfold wantP at h
  unfold wantE
  split at h
  · rename_i hg
    simp only [hg]
    exact .inl ⟨trivial, h⟩
  · rename_i j want hg
    rw [hg]
    dsimp only
    split at h
    · rename_i d hd
      have hd' : (ops[j]?).bind (·.dst) = some d := by rw [← hd]; congr 1; simp
      rw [hd']
      dsimp only
      split at h
      · rename_i b hb
        rw [hb]
        by_cases e : b = want
        · exact .inl ⟨by simp [e], h.1 e⟩
        · exact .inr ⟨by simp [e], h.2 e⟩
      · rename_i hb
        rw [hb]
        exact .inr ⟨rfl, h⟩
      · exact h.elim
    · exact h.elim

theorem stepW_mono {l : Look} {H : Heap} {op : Op} {Q Q' : EV → Heap → List Nat → Prop} (h : stepW E D vm l H op Q) (hq : ∀ v H W, Q v H W → Q' v H W) : stepW E D vm l H op Q' := by
  unfold stepW at h ⊢
  split at h
  · split at h
    · obtain ⟨v, H1, W1, h5, h6⟩ := h
      exact ⟨v, H1, W1, h5, hq _ _ _ h6⟩
    · exact h.elim
  · split at h
    · exact hq _ _ _ h
    · exact h.elim

theorem opsP_ok {ops : Array Oper} : ∀ (n i : Nat) (M : Mm) (H : Heap) (K : Mm → Heap → List Nat → Prop), i + n = ops.size → opsP E D vm N ops.toList (ops.toList.drop i) M H K → opsW E D vm N ops (List.range' i n) M H K := by
  intro n
  induction n with
  | zero =>
    intro i M H K hi h
    rw [List.drop_of_length_le (by simp; omega)] at h
    exact h
  | succ n ih =>
    intro i M H K hi h
    have hlt : i < ops.toList.length := by simp; omega
    rw [List.drop_eq_getElem_cons hlt] at h
    have ho : ops[i]? = some ops.toList[i] := by simp
    simp only [List.range'_succ, opsW, ho]
    simp only [opsP] at h
    refine ⟨h.1, ?_⟩
    rcases wantP_ok h.2 with ⟨hw, h2⟩ | ⟨hw, h2⟩
    · rw [hw]
      exact stepW_mono (stepP_ok h2) fun v H1 W1 h3 => ih (i + 1) _ _ _ (by omega) h3
    · rw [hw]
      exact ih (i + 1) _ _ _ (by omega) h2

theorem quietP_ok {ops : Array Oper} {H : Heap} : ∀ (n i : Nat) (M : Mm) (K : Mm → Prop), i + n = ops.size → quietP E D N ops H (ops.toList.drop i) M K → quietW E D E.vm N ops H (List.range' i n) M K := by
  intro n
  induction n with
  | zero =>
    intro i M K hi h
    rw [List.drop_of_length_le (by simp; omega)] at h
    exact h
  | succ n ih =>
    intro i M K hi h
    have hlt : i < ops.toList.length := by simp; omega
    rw [List.drop_eq_getElem_cons hlt] at h
    have ho : ops[i]? = some ops.toList[i] := by simp
    simp only [List.range'_succ, quietW, ho]
    simp only [quietP] at h
    refine ⟨h.1, ?_⟩
    rcases wantP_ok h.2 with ⟨hw, h2⟩ | ⟨hw, h2⟩
    · rw [hw]
      exact stepW_mono (stepP_ok h2) fun v H1 W1 h3 => ⟨h3.1, h3.2.1, ih (i + 1) _ _ (by omega) h3.2.2⟩
    · rw [hw]
      exact ih (i + 1) _ _ (by omega) h2
theorem stepP_op {l : Look} {H : Heap} {op : Op} {Q : EV → Heap → List Nat → Prop} (hc : isCallV op = false) (h : stepP E D E.vm l H op Q) : ∃ v H1 W1, opE E l H op = some (v, H1, W1) ∧ Q v H1 W1 := by
  have h := stepP_ok h
  unfold stepW at h
  split at h
  · simp [isCallV] at hc
  · split at h
    · rename_i v H1 W1 hop
      exact ⟨v, H1, W1, hop, h⟩
    · exact h.elim
theorem draw2P_ok {ops : Array Oper} {base : Nat} {H1 : Heap} {Wl : List Nat} : ∀ (n i : Nat) (M : Mm) (Hc : Heap) (W : List Nat) (K : Mm → Heap → List Nat → Prop), i + n = ops.size → draw2P E D N ops base H1 Wl (ops.toList.drop i) i M Hc W K → draw2W E D N ops base H1 Wl (List.range' i n) M Hc W K := by
  intro n
  induction n with
  | zero =>
    intro i M Hc W K hi h
    rw [List.drop_of_length_le (by simp; omega)] at h
    exact h
  | succ n ih =>
    intro i M Hc W K hi h
    have hlt : i < ops.toList.length := by simp; omega
    rw [List.drop_eq_getElem_cons hlt] at h
    have ho : ops[i]? = some ops.toList[i] := by simp
    simp only [List.range'_succ, draw2W, ho]
    simp only [draw2P] at h
    refine ⟨h.1, ?_⟩
    have h2 := h.2
    split at h2
    · rename_i cs hb
      rw [hb]
      exact ih (i + 1) _ _ _ _ (by omega) h2
    · rename_i hb
      rw [hb]
      dsimp only
      rcases wantP_ok h2 with ⟨hw, h3⟩ | ⟨hw, h3⟩
      · rw [hw]
        dsimp only
        split at h3
        · rename_i ha
          rw [if_pos ha]
          split at h3
          · rename_i hcv
            rw [if_pos hcv]
            refine stepW_mono (stepP_ok h3) fun v H1 W1 h4 => ?_
            split at h4
            · rename_i hbn
              rw [if_pos hbn]
              exact ih (i + 1) _ _ _ _ (by omega) h4
            · rename_i hbn
              rw [if_neg hbn]
              exact ⟨h4.1, h4.2.1, h4.2.2.1, ih (i + 1) _ _ _ _ (by omega) h4.2.2.2⟩
          · rename_i hcv
            rw [if_neg hcv]
            split at h3
            · rename_i hop
              rw [hop]
              obtain ⟨h4, h5⟩ := h3
              refine ⟨h4, ?_⟩
              split at h5
              · rename_i hop2
                rw [hop2]
                exact ih (i + 1) _ _ _ _ (by omega) h5
              · exact h5.elim
            · exact h3.elim
        · rename_i ha
          rw [if_neg ha]
          have hcv : isCallV ops.toList[i].op = false := by
            revert ha
            generalize ops.toList[i].op = op
            intro ha
            cases hcv : isCallV op with
            | false => rfl
            | true =>
              exfalso
              apply ha
              unfold isCallV at hcv
              split at hcv
              · rfl
              · cases hcv
          obtain ⟨v, H2, W2, h4, h5⟩ := stepP_op hcv h3
          rw [h4]
          exact ⟨h5.1, h5.2.1, ih (i + 1) _ _ _ _ (by omega) h5.2.2⟩
      · rw [hw]
        exact ih (i + 1) _ _ _ _ (by omega) h3

theorem codeP_ok {c : Code} : ∀ {M : Mm} {H : Heap} {K : EX → Mm → Heap → List Nat → Prop}, codeP E dQ vm N c M H K → CodeM E dQ vm N c M H K := by
  induction c with
  | skip => exact fun h => CodeM.skip h
  | exit id => exact fun h => CodeM.exit h
  | ret => exact fun h => CodeM.ret h
  | region id ops d =>
    intro M H K h
    cases d with
    | false =>
      simp only [codeP, regP] at h
      split at h
      · rename_i hn
        exact CodeM.regC hn h
      · exact h.elim
    | true =>
      simp only [codeP, drawP] at h
      split at h
      · obtain ⟨Wl, h2⟩ := h.2
        refine CodeM.draw2 h.1 Wl ?_
        rw [List.range_eq_range']
        exact draw2P_ok ops.size 0 M _ _ _ (by omega) h2
      · refine CodeM.draw h.1 ?_
        rw [List.range_eq_range']
        exact quietP_ok ops.size 0 M _ (by omega) h.2
  | seq a b iha ihb =>
    intro M H K h
    refine CodeM.seq ((iha h).mono fun x M1 H1 W1 h1 => ?_)
    cases x with
    | normal => exact ihb h1
    | exit id => exact h1
    | ret => exact h1
  | cond c a b iha ihb =>
    intro M H K h
    simp only [codeP] at h
    split at h
    · rename_i t ht
      refine CodeM.cond ht ?_
      cases t with
      | true => exact iha (h.1 rfl)
      | false => exact ihb (h.2 (by simp))
    · exact h.elim
  | block id c ih => exact fun h => CodeM.block (ih h)
  | loop c ih => exact fun h => CodeM.loop h
  | _ => exact fun h => h

theorem CallR.eq {f : Nat} {args : List EV} {H H1 : Heap} {v : EV} {W : List Nat} (h : CallR E D f args H v H1 W) (Q : EV → Heap → List Nat → Prop) : CallW E D f args H Q ↔ Q v H1 W := by
  constructor
  · rintro ⟨v', H', W', h1, h2⟩
    obtain ⟨rfl, rfl, rfl⟩ := h.det h1
    exact h2
  · exact fun hq => ⟨v, H1, W, h, hq⟩
theorem CallW.is {f : Nat} {args : List EV} {H H1 : Heap} {v : EV} {W : List Nat} (h : CallW E D f args H fun v' H' W' => v' = v ∧ H' = H1 ∧ W' = W) : CallR E D f args H v H1 W := by
  obtain ⟨v', H', W', h1, rfl, rfl, rfl⟩ := h
  exact h1
/-- A function's body. -/
theorem CallW.body {f : Nat} {fn : Func} {c : Code} {args : List EV} {H : Heap} {Q : EV → Heap → List Nat → Prop} (hI : E.I f args H = none) (hF : E.F f = some fn) (hb : fn.body = some c) (hnd : hasD c = false) (hn : args.length ≤ fn.ntmps)
    (h : codeP E dQ (E.vms f) fn.ntmps c (argM args) H (endM E f fn H Q)) : CallW E dQ f args H Q := CallW.intro hI hF hb hnd hn (codeP_ok h)

/-- Among the temporaries. -/
def Fits (M' M : Mm) : Prop := ∀ p ∈ M', M.lookup p.1 = some p.2
theorem Fits.nil {M : Mm} : Fits [] M := fun _ h => by cases h
theorem Fits.cons {t : Nat} {v : EV} {M' M : Mm} (h : M.lookup t = some v) (hs : Fits M' M) : Fits ((t, v) :: M') M := fun p hp => by
  rcases List.mem_cons.1 hp with rfl | hp
  · exact h
  · exact hs p hp
theorem fits_nil {M : Mm} : Fits [] M ↔ True := ⟨fun _ => trivial, fun _ => .nil⟩
theorem fits_cons {t : Nat} {v : EV} {M' M : Mm} : Fits ((t, v) :: M') M ↔ lk M t = some v ∧ Fits M' M := ⟨fun h => ⟨h _ (List.mem_cons_self ..), fun p hp => h p (List.mem_cons_of_mem _ hp)⟩, fun h => .cons h.1 h.2⟩
/-- A region that finds out one truth value (by whatever way) and leaves the heap: what is behind it knows that value alone. -/
theorem CodeM.join {id : Nat} {ops : Array Oper} {M : Mm} {H : Heap} {K : EX → Mm → Heap → List Nat → Prop} (t : Nat) (r : Bool) (h1 : opsP E dQ vm N ops.toList ops.toList M H fun M1 H1 W1 => H1 = H ∧ W1 = [] ∧ M1.lookup t = some (.bool r) ∧ Fits M M1) (h2 : K .normal ((t, .bool r) :: M) H []) :
    CodeM E dQ vm N (.region id ops false) M H K := by
  intro env hl hh
  have h3 := opsP_ok (E := E) (D := dQ) (vm := vm) (N := N) (ops := ops) ops.size 0 M H _ (by omega) h1
  rw [← List.range_eq_range'] at h3
  obtain ⟨env', H', W, M', ⟨n, k1⟩, k2, k3, e1, e2, k4, k5⟩ := opsW_ok _ _ _ _ h3 env hl hh
  subst e1; subst e2
  refine ⟨.normal, env', H', [], (t, .bool r) :: M, ⟨n, fun m hm k hk => by simp only [cdAt, codeE, k1 m hm k hk]⟩, k2, ?_, h2⟩
  intro u v hu
  rw [List.lookup_cons] at hu
  split at hu
  · rename_i e
    have e := eq_of_beq e
    subst e
    injection hu with hu
    subst hu
    exact k3 _ _ k4
  · have hmem : (u, v) ∈ M := by
      clear k5 h1 h2 h3 hh
      induction M with
      | nil => simp at hu
      | cons p M ih =>
        rw [List.lookup_cons] at hu
        split at hu
        · rename_i e
          injection hu with hu
          have e := eq_of_beq e
          subst hu; subst e
          simp
        · exact List.mem_cons_of_mem _ (ih hu)
    exact k3 _ _ (k5 _ hmem)
/-- What a round leaves: it goes on, or ends. s: where the loop is; Ms, Hs: the temporaries that matter, the heap; I: what holds, of it and of what is written; r: how many rounds are left at most. -/
def roundK {σ : Type} (Ms : σ → Mm) (Hs : σ → Heap) (I : σ → List Nat → Prop) (r : σ → Nat) (K : EX → Mm → Heap → List Nat → Prop) (s : σ) (W : List Nat) : EX → Mm → Heap → List Nat → Prop
  | .normal, M1, H1, W1 => ∃ s', r s' < r s ∧ I s' (W ++ W1) ∧ H1 = Hs s' ∧ Fits (Ms s') M1
  | .exit id, M1, H1, W1 => K (.exit id) M1 H1 (W ++ W1)
  | .ret, M1, H1, W1 => K .ret M1 H1 (W ++ W1)
/-- A loop, by what holds ahead of each round. -/
theorem LoopM.inv {σ : Type} (Ms : σ → Mm) (Hs : σ → Heap) (I : σ → List Nat → Prop) (r : σ → Nat) (s0 : σ) {c : Code} {M : Mm} {H : Heap} {K : EX → Mm → Heap → List Nat → Prop} (h0 : I s0 [] ∧ H = Hs s0 ∧ Fits (Ms s0) M)
    (h : ∀ s W, I s W → codeP E dQ vm N c (Ms s) (Hs s) (roundK Ms Hs I r K s W)) : LoopM E dQ vm N c M H K := by
  have key : ∀ n s W, r s = n → I s W → LoopM E dQ vm N c (Ms s) (Hs s) fun x M2 H2 W2 => K x M2 H2 (W ++ W2) := by
    intro n
    induction n using Nat.strongRecOn with
    | _ n ih =>
      intro s W hn hI
      refine LoopM.step ((codeP_ok (h s W hI)).mono fun x M1 H1 W1 h1 => ?_)
      cases x with
      | normal =>
        obtain ⟨s', hlt, hI', hH, hf⟩ := h1
        subst hH
        refine (LoopM.weaken hf (ih (r s') (by omega) s' _ rfl hI')).mono fun x M2 H2 W2 h2 => ?_
        rw [List.append_assoc] at h2
        exact h2
      | exit id => exact h1
      | ret => exact h1
  obtain ⟨hI, hH, hf⟩ := h0
  subst hH
  exact LoopM.weaken hf (key (r s0) s0 [] rfl hI)

theorem endM_normal {f : Nat} {fn : Func} {H : Heap} {Q : EV → Heap → List Nat → Prop} {M : Mm} {H1 : Heap} {W1 : List Nat} : endM E f fn H Q .normal M H1 W1 = match resultsE E (lk M) H1 fn.results.toList with
    | some vs => Q (finishE (E.pol f) H H1 W1 (tupE vs)).1 (finishE (E.pol f) H H1 W1 (tupE vs)).2.1 (finishE (E.pol f) H H1 W1 (tupE vs)).2.2
    | none => False := rfl
theorem endM_ret {f : Nat} {fn : Func} {H : Heap} {Q : EV → Heap → List Nat → Prop} {M : Mm} {H1 : Heap} {W1 : List Nat} : endM E f fn H Q .ret M H1 W1 = match resultsE E (lk M) H1 fn.results.toList with
    | some vs => Q (finishE (E.pol f) H H1 W1 (tupE vs)).1 (finishE (E.pol f) H H1 W1 (tupE vs)).2.1 (finishE (E.pol f) H H1 W1 (tupE vs)).2.2
    | none => False := rfl
end
end Go.Ev
end
