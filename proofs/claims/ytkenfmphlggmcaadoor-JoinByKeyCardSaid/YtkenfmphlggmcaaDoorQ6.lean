/- The evaluator E: reasoning about it: what it computes whatever its fuel (if that is enough), over the temporaries that matter. -/
import Derived.Test.YtkenfmphlggmcaaDoorQ5
import Derived.Orders

section
namespace Go.Ev
open Go
set_option linter.unusedSimpArgs false
set_option linter.unusedVariables false

section
variable {E : EP} {l l' : Look} (hm : ∀ t v, l t = some v → l' t = some v)
include hm

theorem evO_mono {G : Nat → Option EV} {x : Operand} {v : EV} (h : evO G l x = some v) : evO G l' x = some v := by
  cases x with
  | tmp t => exact hm t v h
  | _ => exact h
theorem evL_mono {G : Nat → Option EV} : ∀ {as : List Operand} {vs : List EV}, evL G l as = some vs → evL G l' as = some vs
  | [], _, h => h
  | a :: as, vs, h => by
    simp only [evL] at h ⊢
    split at h
    · rename_i h1 h2
      rw [evO_mono hm h1, evL_mono h2]
      exact h
    · cases h
theorem evOpt_mono {G : Nat → Option EV} {x : Option Operand} {v : Option EV} (h : evOpt G l x = some v) : evOpt G l' x = some v := by
  cases x with
  | none => exact h
  | some x =>
    simp only [evOpt] at h ⊢
    split at h
    · rename_i h1
      rw [evO_mono hm h1]
      exact h
    · cases h
theorem partsE_mono {G : Nat → Option EV} : ∀ {as : List (Nat × Operand)} {vs : List (Nat × EV)}, partsE G l as = some vs → partsE G l' as = some vs
  | [], _, h => h
  | (i, a) :: as, vs, h => by
    simp only [partsE] at h ⊢
    split at h
    · rename_i h1 h2
      rw [evO_mono hm h1, partsE_mono h2]
      exact h
    · cases h
theorem pureR_mono {G : Nat → Option EV} {H : Heap} {x : Operand} {r : EV × Heap × List Nat} (h : pureR H (evO G l x) = some r) : pureR H (evO G l' x) = some r := by
  cases hx : evO G l x with
  | none => rw [hx] at h; cases h
  | some v => rw [evO_mono hm hx, ← hx]; exact h

theorem opE_mono {H : Heap} {op : Op} {r : EV × Heap × List Nat} (h : opE E l H op = some r) : opE E l' H op = some r := by
  unfold opE at h ⊢
  split at h
  all_goals try dsimp only
  · exact pureR_mono hm h
  · exact pureR_mono hm h
  · split at h
    · rename_i h1; rw [evO_mono hm h1]; exact pureR_mono hm h
    · rename_i h1; rw [evO_mono hm h1]; exact pureR_mono hm h
    · cases h
  · exact h
  · split at h
    · rename_i h1; rw [evO_mono hm h1]; exact h
    · cases h
  · split at h
    · rename_i h1; rw [partsE_mono hm h1]; exact h
    · cases h
  · split at h
    · rename_i h1; rw [partsE_mono hm h1]; exact h
    · cases h
  · split at h
    · rename_i h1; rw [evO_mono hm h1]; exact h
    · cases h
  · split at h
    · rename_i h1 h2; rw [evO_mono hm h1, evO_mono hm h2]; exact h
    · cases h
  · split at h
    · rename_i h1; rw [evO_mono hm h1]; exact h
    · rename_i h1; rw [evO_mono hm h1]; exact h
    · rename_i h1; rw [evO_mono hm h1]; exact h
    · cases h
  · split at h
    · rename_i h1 h2; rw [evO_mono hm h1, evO_mono hm h2]; exact h
    · cases h
  · split at h
    · rename_i h1; rw [evO_mono hm h1]; exact h
    · cases h
  · split at h
    · rename_i h1; rw [evO_mono hm h1]; exact h
    · cases h
  · split at h
    · rename_i h1 h2; rw [evL_mono hm h1, evL_mono hm h2]; exact h
    · cases h
  · exact h
  · split at h
    · rename_i h1 h2; rw [evO_mono hm h1, evO_mono hm h2]; exact h
    · cases h
  · split at h
    · rename_i h1 h2 h3 h4; rw [evO_mono hm h1, evOpt_mono hm h2, evOpt_mono hm h3, evOpt_mono hm h4]; exact h
    · cases h
  · split at h
    · rename_i h1; rw [evO_mono hm h1]; exact h
    · cases h
  · split at h
    · rename_i h1; rw [evO_mono hm h1]; exact h
    · cases h
  · split at h
    · rename_i h1 h2; rw [evO_mono hm h1, evO_mono hm h2]; exact h
    · cases h
  · split at h
    · rename_i h1 h2; rw [evO_mono hm h1, evO_mono hm h2]; exact h
    · cases h
  · split at h
    · rename_i h1 h2; rw [evO_mono hm h1, evO_mono hm h2]; exact h
    · cases h
  · split at h
    · rename_i h1 h2 h3; rw [evO_mono hm h1, evO_mono hm h2, evO_mono hm h3]; exact h
    · cases h
  · split at h
    · rename_i h1 h2 h3; rw [evO_mono hm h1, evO_mono hm h2, evO_mono hm h3]; exact h
    · cases h
  · split at h
    · rename_i h1; rw [evO_mono hm h1]; exact h
    · cases h
  · split at h
    · rename_i h1; rw [evL_mono hm h1]; exact h
    · cases h
  · cases h
theorem wantE_mono {ops : Array Oper} {o : Oper} {b : Bool} (h : wantE ops l o = some b) : wantE ops l' o = some b := by
  unfold wantE at h ⊢
  split at h
  · exact h
  · split at h
    · rename_i hd
      split at h
      · rename_i h1
        rw [hm _ _ h1]
        exact h
      · rename_i h1
        rw [hm _ _ h1]
        exact h
      · cases h
    · cases h
theorem resultsE_mono {H : Heap} : ∀ {rs : List ResultVar} {vs : List EV}, resultsE E l H rs = some vs → resultsE E l' H rs = some vs
  | [], _, h => h
  | .tmp t :: rs, vs, h => by
    simp only [resultsE] at h ⊢
    split at h
    · rename_i h1 h2
      rw [hm _ _ h1, resultsE_mono h2]
      exact h
    · cases h
  | .cell a t :: rs, vs, h => by
    simp only [resultsE] at h ⊢
    split at h
    · rename_i h1
      rw [hm _ _ h1]
      dsimp only
      split at h
      · rename_i h2 h3
        rw [h2, resultsE_mono h3]
        exact h
      · cases h
    · cases h
end

def EP.at (E : EP) (m : Nat) : EP := { E with fuel := m }

section
variable (E : EP) (D : EP → CallF → DrawF)

def cfAt (m k : Nat) : CallF := callE (E.at m) (D (E.at m)) k
/-- A call, whatever the fuel, if that is enough. -/
def CallR (f : Nat) (args : List EV) (H : Heap) (v : EV) (H' : Heap) (W : List Nat) : Prop := ∃ n, ∀ m, n ≤ m → ∀ k, n ≤ k → cfAt E D m k f args H = some (v, H', W)
def CallW (f : Nat) (args : List EV) (H : Heap) (Q : EV → Heap → List Nat → Prop) : Prop := ∃ v H' W, CallR E D f args H v H' W ∧ Q v H' W

abbrev Mm := List (Nat × EV)
def lk (M : Mm) : Look := fun t => M.lookup t
def Has (M : Mm) (env : Env) : Prop := ∀ t v, M.lookup t = some v → env[t]? = some v
def putM (M : Mm) (dst : Option Nat) (v : EV) : Mm := match dst with
  | some d => (d, v) :: M
  | none => M
def dstOk (N : Nat) : Option Nat → Bool
  | some d => decide (d < N)
  | none => true

def cdAt (vm : Bool) (m k : Nat) : Code → Env → Heap → CRes := codeE { E.at m with vm := vm } (cfAt E D m k) (D (E.at m) (cfAt E D m k))
/-- Code, whatever the fuel, over the temporaries that are known. -/
def CodeM (vm : Bool) (N : Nat) (c : Code) (M : Mm) (H : Heap) (K : EX → Mm → Heap → List Nat → Prop) : Prop :=
  ∀ env : Env, env.length = N → Has M env → ∃ (x : EX) (env' : Env) (H' : Heap) (W : List Nat) (M' : Mm), (∃ n, ∀ m, n ≤ m → ∀ k, n ≤ k → cdAt E D vm m k c env H = some (x, env', H', W)) ∧ env'.length = N ∧ Has M' env' ∧ K x M' H' W

/-- An operation. -/
def stepW (vm : Bool) (l : Look) (H : Heap) (op : Op) (Q : EV → Heap → List Nat → Prop) : Prop :=
  match op with
  | .call { callee := .value f, args := as, .. } => match evO E.G l f, evL E.G l as.toList with
    | some (.fn g a b), some vs => CallW E D g (a ++ vs ++ b) H Q
    | _, _ => False
  | op => match opE { E with vm := vm } l H op with
    | some (v, H1, W1) => Q v H1 W1
    | none => False

def opsW (vm : Bool) (N : Nat) (ops : Array Oper) : List Nat → Mm → Heap → (Mm → Heap → List Nat → Prop) → Prop
  | [], M, H, K => K M H []
  | i :: rest, M, H, K => match ops[i]? with
    | none => False
    | some o => dstOk N o.dst = true ∧ match wantE ops (lk M) o with
      | some true => stepW E D vm (lk M) H o.op fun v H1 W1 => opsW vm N ops rest (putM M o.dst v) H1 fun M2 H2 W2 => K M2 H2 (W1 ++ W2)
      | some false => opsW vm N ops rest (putM M o.dst .undef) H K
      | none => False
end

section
variable {E : EP} {D : EP → CallF → DrawF} {vm : Bool} {N : Nat} {M : Mm} {H : Heap} {K : EX → Mm → Heap → List Nat → Prop}

theorem Has.put {env : Env} (h : Has M env) {dst : Option Nat} {v : EV} (hd : dstOk env.length dst = true) : Has (putM M dst v) (putE env dst v) := by
  cases dst with
  | none => exact h
  | some d =>
    have hd' : d < env.length := by simpa [dstOk] using hd
    intro t u hu
    simp only [putM, List.lookup_cons] at hu
    simp only [putE]
    split at hu
    · rename_i e
      have e := eq_of_beq e
      subst e
      injection hu with hu
      subst hu
      rw [List.getElem?_set, if_pos rfl, if_pos hd']
    · rename_i e
      rw [List.getElem?_set, if_neg (fun e' => by subst e'; simp at e)]
      exact h t u hu
theorem putE_length (env : Env) (dst : Option Nat) (v : EV) : (putE env dst v).length = env.length := by cases dst <;> simp [putE]

theorem opE_at (m : Nat) (l : Look) (H : Heap) (op : Op) : opE { E.at m with vm := vm } l H op = opE { E with vm := vm } l H op := rfl

theorem stepW_ok {l l' : Look} (hm : ∀ t v, l t = some v → l' t = some v) {op : Op} {Q : EV → Heap → List Nat → Prop} (h : stepW E D vm l H op Q) :
    ∃ v H1 W1, (∃ n, ∀ m, n ≤ m → ∀ k, n ≤ k → stepE { E.at m with vm := vm } (cfAt E D m k) l' H op = some (v, H1, W1)) ∧ Q v H1 W1 := by
  unfold stepW at h
  split at h
  · split at h
    · rename_i hf has
      obtain ⟨v, H', W, ⟨n, hn⟩, hQ⟩ := h
      refine ⟨v, H', W, ⟨n, fun m h1 k h2 => ?_⟩, hQ⟩
      simp only [stepE]
      have e1 : evO ({ E.at m with vm := vm } : EP).G l' _ = _ := evO_mono hm hf
      have e2 : evL ({ E.at m with vm := vm } : EP).G l' _ = _ := evL_mono hm has
      rw [e1, e2]
      exact hn m h1 k h2
    · exact h.elim
  · rename_i hne
    split at h
    · rename_i v H1 W1 hop
      refine ⟨v, H1, W1, ⟨0, fun m _ k _ => ?_⟩, h⟩
      unfold stepE
      split
      · exact (hne _ _ _ rfl).elim
      · rw [opE_at]
        exact opE_mono hm hop
    · exact h.elim

theorem opsW_ok {ops : Array Oper} : ∀ (l : List Nat) (M : Mm) (H : Heap) (K : Mm → Heap → List Nat → Prop), opsW E D vm N ops l M H K → ∀ env : Env, env.length = N → Has M env →
    ∃ (env' : Env) (H' : Heap) (W : List Nat) (M' : Mm), (∃ n, ∀ m, n ≤ m → ∀ k, n ≤ k → opsE { E.at m with vm := vm } (cfAt E D m k) ops l env H = some (env', H', W)) ∧ env'.length = N ∧ Has M' env' ∧ K M' H' W
  | [], M, H, K, h, env, hl, hh => ⟨env, H, [], M, ⟨0, fun _ _ _ _ => rfl⟩, hl, hh, h⟩
  | i :: rest, M, H, K, h, env, hl, hh => by
    simp only [opsW] at h
    split at h
    · exact h.elim
    · rename_i o ho
      obtain ⟨hd, h⟩ := h
      have hlk : ∀ t v, lk M t = some v → look env t = some v := fun t v h => hh t v h
      split at h
      · rename_i hw
        have hw' := wantE_mono hlk hw
        obtain ⟨v, H1, W1, ⟨n1, h1⟩, h2⟩ := stepW_ok hlk h
        obtain ⟨env', H', W, M', ⟨n2, h3⟩, h4, h5, h6⟩ := opsW_ok rest _ _ _ h2 (putE env o.dst v) (by rw [putE_length]; exact hl) (hh.put (by rw [hl]; exact hd))
        refine ⟨env', H', W1 ++ W, M', ⟨max n1 n2, fun m hm k hk => ?_⟩, h4, h5, h6⟩
        simp only [opsE, ho, hw', h1 m (by omega) k (by omega), h3 m (by omega) k (by omega)]
      · rename_i hw
        have hw' := wantE_mono hlk hw
        obtain ⟨env', H', W, M', ⟨n2, h3⟩, h4, h5, h6⟩ := opsW_ok rest _ _ _ h (putE env o.dst .undef) (by rw [putE_length]; exact hl) (hh.put (by rw [hl]; exact hd))
        refine ⟨env', H', W, M', ⟨n2, fun m hm k hk => ?_⟩, h4, h5, h6⟩
        simp only [opsE, ho, hw', h3 m (by omega) k (by omega)]
      · exact h.elim

theorem CodeM.region {id : Nat} {ops : Array Oper} (h : opsW E D vm N ops (List.range ops.size) M H fun M' H' W => K .normal M' H' W) : CodeM E D vm N (.region id ops false) M H K := by
  intro env hl hh
  obtain ⟨env', H', W, M', ⟨n, h1⟩, h2, h3, h4⟩ := opsW_ok _ _ _ _ h env hl hh
  exact ⟨.normal, env', H', W, M', ⟨n, fun m hm k hk => by simp only [cdAt, codeE, h1 m hm k hk]⟩, h2, h3, h4⟩
theorem CodeM.skip (h : K .normal M H []) : CodeM E D vm N .skip M H K := fun env hl hh => ⟨.normal, env, H, [], M, ⟨0, fun _ _ _ _ => by simp only [cdAt, codeE]⟩, hl, hh, h⟩
theorem CodeM.exit {id : Nat} (h : K (.exit id) M H []) : CodeM E D vm N (.exit id) M H K := fun env hl hh => ⟨.exit id, env, H, [], M, ⟨0, fun _ _ _ _ => by simp only [cdAt, codeE]⟩, hl, hh, h⟩
theorem CodeM.ret (h : K .ret M H []) : CodeM E D vm N .ret M H K := fun env hl hh => ⟨.ret, env, H, [], M, ⟨0, fun _ _ _ _ => by simp only [cdAt, codeE]⟩, hl, hh, h⟩
/-- What comes behind. -/
def thenM (E : EP) (D : EP → CallF → DrawF) (vm : Bool) (N : Nat) (b : Code) (K : EX → Mm → Heap → List Nat → Prop) : EX → Mm → Heap → List Nat → Prop
  | .normal, M, H, W => CodeM E D vm N b M H fun x M2 H2 W2 => K x M2 H2 (W ++ W2)
  | x, M, H, W => K x M H W
theorem CodeM.seq {a b : Code} (h : CodeM E D vm N a M H (thenM E D vm N b K)) : CodeM E D vm N (.seq a b) M H K := by
  intro env hl hh
  obtain ⟨x, env1, H1, W1, M1, ⟨n1, h1⟩, h2, h3, h4⟩ := h env hl hh
  cases x with
  | normal =>
    obtain ⟨y, env2, H2, W2, M2, ⟨n2, k1⟩, k2, k3, k4⟩ := h4 env1 h2 h3
    refine ⟨y, env2, H2, W1 ++ W2, M2, ⟨max n1 n2, fun m hm k hk => ?_⟩, k2, k3, k4⟩
    have e1 := h1 m (by omega) k (by omega)
    have e2 := k1 m (by omega) k (by omega)
    simp only [cdAt] at e1 e2 ⊢
    simp only [codeE, e1, e2]
  | exit id => exact ⟨_, env1, H1, W1, M1, ⟨n1, fun m hm k hk => by have e1 := h1 m hm k hk; simp only [cdAt] at e1 ⊢; simp only [codeE, e1]⟩, h2, h3, h4⟩
  | ret => exact ⟨_, env1, H1, W1, M1, ⟨n1, fun m hm k hk => by have e1 := h1 m hm k hk; simp only [cdAt] at e1 ⊢; simp only [codeE, e1]⟩, h2, h3, h4⟩
theorem CodeM.cond {c : Operand} {a b : Code} {t : Bool} (hc : evO E.G (lk M) c = some (.bool t)) (h : CodeM E D vm N (if t then a else b) M H K) : CodeM E D vm N (.cond c a b) M H K := by
  intro env hl hh
  obtain ⟨x, env1, H1, W1, M1, ⟨n1, h1⟩, h2, h3, h4⟩ := h env hl hh
  have hc' : evO E.G (look env) c = some (.bool t) := evO_mono (fun t v h => hh t v h) hc
  refine ⟨x, env1, H1, W1, M1, ⟨n1, fun m hm k hk => ?_⟩, h2, h3, h4⟩
  have e1 := h1 m hm k hk
  have hc2 : evO ({ E.at m with vm := vm } : EP).G (look env) c = some (.bool t) := hc'
  simp only [cdAt] at e1 ⊢
  simp only [codeE, hc2]
  cases t <;> exact e1
def blockM (id : Nat) (K : EX → Mm → Heap → List Nat → Prop) : EX → Mm → Heap → List Nat → Prop
  | .exit j, M, H, W => if j = id then K .normal M H W else K (.exit j) M H W
  | x, M, H, W => K x M H W
theorem CodeM.block {id : Nat} {c : Code} (h : CodeM E D vm N c M H (blockM id K)) : CodeM E D vm N (.block id c) M H K := by
  intro env hl hh
  obtain ⟨x, env1, H1, W1, M1, ⟨n1, h1⟩, h2, h3, h4⟩ := h env hl hh
  cases x with
  | exit j =>
    simp only [blockM] at h4
    by_cases hj : j = id
    · rw [if_pos hj] at h4
      exact ⟨.normal, env1, H1, W1, M1, ⟨n1, fun m hm k hk => by have e1 := h1 m hm k hk; simp only [cdAt] at e1 ⊢; simp only [codeE, e1, if_pos hj]⟩, h2, h3, h4⟩
    · rw [if_neg hj] at h4
      exact ⟨.exit j, env1, H1, W1, M1, ⟨n1, fun m hm k hk => by have e1 := h1 m hm k hk; simp only [cdAt] at e1 ⊢; simp only [codeE, e1, if_neg hj]⟩, h2, h3, h4⟩
  | normal => exact ⟨_, env1, H1, W1, M1, ⟨n1, fun m hm k hk => by have e1 := h1 m hm k hk; simp only [cdAt] at e1 ⊢; simp only [codeE, e1]⟩, h2, h3, h4⟩
  | ret => exact ⟨_, env1, H1, W1, M1, ⟨n1, fun m hm k hk => by have e1 := h1 m hm k hk; simp only [cdAt] at e1 ⊢; simp only [codeE, e1]⟩, h2, h3, h4⟩
/-- A loop's rounds. -/
def LoopM (E : EP) (D : EP → CallF → DrawF) (vm : Bool) (N : Nat) (c : Code) (M : Mm) (H : Heap) (K : EX → Mm → Heap → List Nat → Prop) : Prop :=
  ∀ env : Env, env.length = N → Has M env → ∃ (x : EX) (env' : Env) (H' : Heap) (W : List Nat) (M' : Mm), (∃ n, ∀ m, n ≤ m → ∀ k, n ≤ k → ∀ j, n ≤ j → iterE (cdAt E D vm m k c) j env H = some (x, env', H', W)) ∧ env'.length = N ∧ Has M' env' ∧ K x M' H' W
def thenL (E : EP) (D : EP → CallF → DrawF) (vm : Bool) (N : Nat) (c : Code) (K : EX → Mm → Heap → List Nat → Prop) : EX → Mm → Heap → List Nat → Prop
  | .normal, M, H, W => LoopM E D vm N c M H fun x M2 H2 W2 => K x M2 H2 (W ++ W2)
  | x, M, H, W => K x M H W
theorem CodeM.loop {c : Code} (h : LoopM E D vm N c M H K) : CodeM E D vm N (.loop c) M H K := by
  intro env hl hh
  obtain ⟨x, env1, H1, W1, M1, ⟨n1, h1⟩, h2, h3, h4⟩ := h env hl hh
  exact ⟨x, env1, H1, W1, M1, ⟨n1, fun m hm k hk => by have := h1 m hm k hk m hm; simp only [cdAt] at this ⊢; simp only [codeE]; exact this⟩, h2, h3, h4⟩
theorem LoopM.step {c : Code} (h : CodeM E D vm N c M H (thenL E D vm N c K)) : LoopM E D vm N c M H K := by
  intro env hl hh
  obtain ⟨x, env1, H1, W1, M1, ⟨n1, h1⟩, h2, h3, h4⟩ := h env hl hh
  cases x with
  | normal =>
    obtain ⟨y, env2, H2, W2, M2, ⟨n2, k1⟩, k2, k3, k4⟩ := h4 env1 h2 h3
    refine ⟨y, env2, H2, W1 ++ W2, M2, ⟨max n1 n2 + 1, fun m hm k hk j hj => ?_⟩, k2, k3, k4⟩
    obtain ⟨j', rfl⟩ : ∃ j', j = j' + 1 := ⟨j - 1, by omega⟩
    simp only [iterE, h1 m (by omega) k (by omega), k1 m (by omega) k (by omega) j' (by omega)]
  | exit id => exact ⟨_, env1, H1, W1, M1, ⟨n1 + 1, fun m hm k hk j hj => by
      obtain ⟨j', rfl⟩ : ∃ j', j = j' + 1 := ⟨j - 1, by omega⟩
      simp only [iterE, h1 m (by omega) k (by omega)]⟩, h2, h3, h4⟩
  | ret => exact ⟨_, env1, H1, W1, M1, ⟨n1 + 1, fun m hm k hk j hj => by
      obtain ⟨j', rfl⟩ : ∃ j', j = j' + 1 := ⟨j - 1, by omega⟩
      simp only [iterE, h1 m (by omega) k (by omega)]⟩, h2, h3, h4⟩

theorem Has.sub {M' : Mm} {env : Env} (hs : ∀ p ∈ M', M.lookup p.1 = some p.2) (h : Has M env) : Has M' env := by
  intro t v hv
  have : (t, v) ∈ M' := by
    clear hs
    induction M' with
    | nil => simp at hv
    | cons p M' ih =>
      rw [List.lookup_cons] at hv
      split at hv
      · rename_i e
        injection hv with hv
        have e := eq_of_beq e
        subst hv; subst e
        simp
      · exact List.mem_cons_of_mem _ (ih hv)
  exact h t v (hs _ this)
theorem CodeM.weaken {c : Code} {M' : Mm} (hs : ∀ p ∈ M', M.lookup p.1 = some p.2) (h : CodeM E D vm N c M' H K) : CodeM E D vm N c M H K := fun env hl hh => h env hl (hh.sub hs)
theorem LoopM.weaken {c : Code} {M' : Mm} (hs : ∀ p ∈ M', M.lookup p.1 = some p.2) (h : LoopM E D vm N c M' H K) : LoopM E D vm N c M H K := fun env hl hh => h env hl (hh.sub hs)
theorem CodeM.mono {c : Code} {K' : EX → Mm → Heap → List Nat → Prop} (h : CodeM E D vm N c M H K) (hk : ∀ x M H W, K x M H W → K' x M H W) : CodeM E D vm N c M H K' := fun env hl hh => by
  obtain ⟨x, env1, H1, W1, M1, h1, h2, h3, h4⟩ := h env hl hh
  exact ⟨x, env1, H1, W1, M1, h1, h2, h3, hk _ _ _ _ h4⟩
theorem LoopM.mono {c : Code} {K' : EX → Mm → Heap → List Nat → Prop} (h : LoopM E D vm N c M H K) (hk : ∀ x M H W, K x M H W → K' x M H W) : LoopM E D vm N c M H K' := fun env hl hh => by
  obtain ⟨x, env1, H1, W1, M1, h1, h2, h3, h4⟩ := h env hl hh
  exact ⟨x, env1, H1, W1, M1, h1, h2, h3, hk _ _ _ _ h4⟩

/-- The temporaries when a call begins. -/
def argM (args : List EV) : Mm := args.zipIdx.map fun p => (p.2, p.1)
/-- What a call hands back when its body is done. -/
def endM (E : EP) (f : Nat) (fn : Func) (H : Heap) (Q : EV → Heap → List Nat → Prop) : EX → Mm → Heap → List Nat → Prop
  | .exit _, _, _, _ => False
  | _, M, H1, W1 => match resultsE E (lk M) H1 fn.results.toList with
    | some vs => match finishE (E.pol f) H H1 W1 (tupE vs) with
      | (v, H2, W2) => Q v H2 W2
    | none => False

theorem Has.args (args : List EV) (n : Nat) : Has (argM args) (args ++ List.replicate n .undef) := by
  intro t v h
  have key : ∀ (l : List EV) (i : Nat), ((l.zipIdx i).map fun p => (p.2, p.1)).lookup t = some v → i ≤ t ∧ l[t - i]? = some v := by
    intro l
    induction l with
    | nil => intro i h; simp at h
    | cons a l ih =>
      intro i h
      simp only [List.zipIdx_cons, List.map_cons, List.lookup_cons] at h
      split at h
      · rename_i e
        have e := eq_of_beq e
        subst e
        injection h with h
        subst h
        simp
      · obtain ⟨h1, h2⟩ := ih (i + 1) h
        refine ⟨by omega, ?_⟩
        obtain ⟨j, hj⟩ : ∃ j, t - i = j + 1 := ⟨t - i - 1, by omega⟩
        rw [hj, List.getElem?_cons_succ, ← h2]
        congr 1
        omega
  have := (key args 0 h).2
  rw [Nat.sub_zero] at this
  rw [List.getElem?_append_left (List.getElem?_eq_some_iff.1 this).1]
  exact this

theorem resultsE_at (m : Nat) (l : Look) (H : Heap) : ∀ rs : List ResultVar, resultsE (E.at m) l H rs = resultsE E l H rs
  | [] => rfl
  | .tmp t :: rs => by simp only [resultsE, resultsE_at m l H rs]
  | .cell a t :: rs => by
    simp only [resultsE, resultsE_at m l H rs]
    rfl

theorem CallW.intro {f : Nat} {fn : Func} {c : Code} {args : List EV} {Q : EV → Heap → List Nat → Prop} (hI : E.I f args H = none) (hF : E.F f = some fn) (hb : fn.body = some c) (hnd : hasD c = false) (hn : args.length ≤ fn.ntmps)
    (h : CodeM E D (E.vms f) fn.ntmps c (argM args) H (endM E f fn H Q)) : CallW E D f args H Q := by
  obtain ⟨x, env', H', W, M', ⟨n, h1⟩, h2, h3, h4⟩ := h (args ++ List.replicate (fn.ntmps - args.length) .undef) (by simp; omega) (Has.args _ _)
  have done : (∀ id, x ≠ .exit id) → (match resultsE E (lk M') H' fn.results.toList with
      | some vs => match finishE (E.pol f) H H' W (tupE vs) with
        | (v, H2, W2) => Q v H2 W2
      | none => False) → CallW E D f args H Q := by
    intro hx h4
    split at h4
    · rename_i vs hvs
      have hvs' := resultsE_mono (l' := look env') (fun t v h => h3 t v h) hvs
      generalize hfin : finishE (E.pol f) H H' W (tupE vs) = r at h4
      obtain ⟨v, H2, W2⟩ := r
      refine ⟨v, H2, W2, ⟨n + 1, fun m hm k hk => ?_⟩, h4⟩
      obtain ⟨k', rfl⟩ : ∃ k', k = k' + 1 := ⟨k - 1, by omega⟩
      have e1 := h1 m (by omega) k' (by omega)
      have hI' : (E.at m).I f args H = none := hI
      have hF' : (E.at m).F f = some fn := hF
      have hvms : (E.at m).vms f = E.vms f := rfl
      have hpol : (E.at m).pol f = E.pol f := rfl
      have hres : resultsE (E.at m) (look env') H' fn.results.toList = some vs := by rw [resultsE_at]; exact hvs'
      simp only [cdAt, cfAt] at e1
      simp only [cfAt, callE, hI', hF', hb, hnd, Bool.false_eq_true, if_false, bodyE, if_pos hn, hvms, e1]
      cases x with
      | exit id => exact absurd rfl (hx id)
      | normal => simp only [hres, hpol, hfin]
      | ret => simp only [hres, hpol, hfin]
    · exact h4.elim
  cases x with
  | exit id => exact h4.elim
  | normal => exact done (by simp) h4
  | ret => exact done (by simp) h4
/-- What is told of a function. -/
theorem CallR.told {f : Nat} {args : List EV} {v : EV} {H1 : Heap} {W : List Nat} (h : E.I f args H = some (v, H1, W)) : CallR E D f args H v H1 W := by
  refine ⟨1, fun m hm k hk => ?_⟩
  obtain ⟨k', rfl⟩ : ∃ k', k = k' + 1 := ⟨k - 1, by omega⟩
  have hI' : (E.at m).I f args H = some (v, H1, W) := h
  simp only [cfAt, callE, hI']

/-- Code that lays down one deferred call, whatever the fuel; K: for the end, and the call. -/
def CodeDM (E : EP) (D : EP → CallF → DrawF) (vm : Bool) (N : Nat) (c : Code) (M : Mm) (H : Heap) (K : Option (Nat × List EV) → EX → Mm → Heap → List Nat → Prop) : Prop :=
  ∀ env : Env, env.length = N → Has M env → ∃ (x : EX) (env' : Env) (H' : Heap) (W : List Nat) (d : Option (Nat × List EV)) (M' : Mm), (∃ n, ∀ m, n ≤ m → ∀ k, n ≤ k → codeD { E.at m with vm := vm } (cfAt E D m k) (D (E.at m) (cfAt E D m k)) c env H = some (x, env', H', W, d)) ∧ env'.length = N ∧ Has M' env' ∧ K d x M' H' W
/-- What comes behind. -/
def thenDM (E : EP) (D : EP → CallF → DrawF) (vm : Bool) (N : Nat) (b : Code) (K : Option (Nat × List EV) → EX → Mm → Heap → List Nat → Prop) : EX → Mm → Heap → List Nat → Prop
  | .normal, M, H, W => CodeDM E D vm N b M H fun d x M2 H2 W2 => K d x M2 H2 (W ++ W2)
  | x, M, H, W => K none x M H W
theorem CodeDM.seq {a b : Code} {K : Option (Nat × List EV) → EX → Mm → Heap → List Nat → Prop} (hd : deferOf a = none) (h : CodeM E D vm N a M H (thenDM E D vm N b K)) : CodeDM E D vm N (.seq a b) M H K := by
  intro env hl hh
  obtain ⟨x, env1, H1, W1, M1, ⟨n1, h1⟩, h2, h3, h4⟩ := h env hl hh
  cases x with
  | normal =>
    obtain ⟨y, env2, H2, W2, d, M2, ⟨n2, k1⟩, k2, k3, k4⟩ := h4 env1 h2 h3
    refine ⟨y, env2, H2, W1 ++ W2, d, M2, ⟨max n1 n2, fun m hm k hk => ?_⟩, k2, k3, k4⟩
    have e1 := h1 m (by omega) k (by omega)
    have e2 := k1 m (by omega) k (by omega)
    simp only [cdAt] at e1
    simp only [codeD, hd, e1, e2]
  | exit id => exact ⟨_, env1, H1, W1, none, M1, ⟨n1, fun m hm k hk => by have e1 := h1 m hm k hk; simp only [cdAt] at e1; simp only [codeD, hd, e1]⟩, h2, h3, h4⟩
  | ret => exact ⟨_, env1, H1, W1, none, M1, ⟨n1, fun m hm k hk => by have e1 := h1 m hm k hk; simp only [cdAt] at e1; simp only [codeD, hd, e1]⟩, h2, h3, h4⟩
theorem CodeDM.defer {a b : Code} {o : Oper} {x : Operand} {K : Option (Nat × List EV) → EX → Mm → Heap → List Nat → Prop} (hd : deferOf a = some (o, x)) (hdst : dstOk N o.dst = true)
    (h : stepW E D vm (lk M) H o.op fun v H1 W1 => ∃ g as bs, evO E.G (lk (putM M o.dst v)) x = some (.fn g as bs) ∧ CodeM E D vm N b (putM M o.dst v) H1 fun y M2 H2 W2 => K (some (g, as ++ bs)) y M2 H2 (W1 ++ W2)) : CodeDM E D vm N (.seq a b) M H K := by
  intro env hl hh
  obtain ⟨v, H1, W1, ⟨n1, h1⟩, g, as, bs, hx, h2⟩ := stepW_ok (l' := look env) (fun t v h => hh t v h) h
  have hh1 := hh.put (dst := o.dst) (v := v) (by rw [hl]; exact hdst)
  obtain ⟨y, env2, H2, W2, M2, ⟨n2, k1⟩, k2, k3, k4⟩ := h2 (putE env o.dst v) (by rw [putE_length]; exact hl) hh1
  refine ⟨y, env2, H2, W1 ++ W2, _, M2, ⟨max n1 n2, fun m hm k hk => ?_⟩, k2, k3, k4⟩
  have e1 := h1 m (by omega) k (by omega)
  have e2 := k1 m (by omega) k (by omega)
  have hx' : evO ({ E.at m with vm := vm } : EP).G (look (putE env o.dst v)) x = some (.fn g as bs) := evO_mono (fun t v h => hh1 t v h) hx
  simp only [cdAt] at e2
  simp only [codeD, hd, e1, hx', e2]

/-- What a call hands back whose deferred call is made. -/
def endDM (E : EP) (D : EP → CallF → DrawF) (f : Nat) (fn : Func) (H : Heap) (Q : EV → Heap → List Nat → Prop) : Option (Nat × List EV) → EX → Mm → Heap → List Nat → Prop
  | none => endM E f fn H Q
  | some (g, as) => fun x M H1 W1 => (∀ id, x ≠ .exit id) ∧ E.I g as H1 = none ∧ (∃ fg cg, E.F g = some fg ∧ fg.body = some cg ∧ hasD cg = false) ∧ CallW E D g as H1 fun _ H2 W2 => endM E f fn H Q .ret M H2 (W1 ++ W2)
theorem CallW.defers {f : Nat} {fn : Func} {c : Code} {args : List EV} {Q : EV → Heap → List Nat → Prop} (hI : E.I f args H = none) (hF : E.F f = some fn) (hb : fn.body = some c) (hnd : hasD c = true) (hn : args.length ≤ fn.ntmps)
    (h : CodeDM E D (E.vms f) fn.ntmps c (argM args) H (endDM E D f fn H Q)) : CallW E D f args H Q := by
  obtain ⟨x, env', H', W, d, M', ⟨n, h1⟩, h2, h3, h4⟩ := h (args ++ List.replicate (fn.ntmps - args.length) .undef) (by simp; omega) (Has.args _ _)
  cases d with
  | none =>
    have done : (∀ id, x ≠ .exit id) → (match resultsE E (lk M') H' fn.results.toList with
        | some vs => match finishE (E.pol f) H H' W (tupE vs) with
          | (v, H2, W2) => Q v H2 W2
        | none => False) → CallW E D f args H Q := by
      intro hx h4
      split at h4
      · rename_i vs hvs
        have hvs' := resultsE_mono (l' := look env') (fun t v h => h3 t v h) hvs
        generalize hfin : finishE (E.pol f) H H' W (tupE vs) = r at h4
        obtain ⟨v, H2, W2⟩ := r
        refine ⟨v, H2, W2, ⟨n + 1, fun m hm k hk => ?_⟩, h4⟩
        obtain ⟨k', rfl⟩ : ∃ k', k = k' + 1 := ⟨k - 1, by omega⟩
        have e1 := h1 m (by omega) k' (by omega)
        have hI' : (E.at m).I f args H = none := hI
        have hF' : (E.at m).F f = some fn := hF
        have hvms : (E.at m).vms f = E.vms f := rfl
        have hpol : (E.at m).pol f = E.pol f := rfl
        have hres : resultsE (E.at m) (look env') H' fn.results.toList = some vs := by rw [resultsE_at]; exact hvs'
        simp only [cfAt] at e1
        simp only [cfAt, callE, hI', hF', hb, hnd, if_true, callD, if_pos hn, hvms, e1]
        cases x with
        | exit id => exact absurd rfl (hx id)
        | normal => simp only [hres, hpol, hfin]
        | ret => simp only [hres, hpol, hfin]
      · exact h4.elim
    cases x with
    | exit id => exact h4.elim
    | normal => exact done (by simp) h4
    | ret => exact done (by simp) h4
  | some p =>
    obtain ⟨g, as⟩ := p
    obtain ⟨hx, hIg, ⟨fg, cg, hFg, hcg, hndg⟩, v2, H2, W2, ⟨n2, h5⟩, h6⟩ := h4
    simp only [endM] at h6
    split at h6
    · rename_i vs hvs
      have hvs' := resultsE_mono (l' := look env') (fun t v h => h3 t v h) hvs
      generalize hfin : finishE (E.pol f) H H2 (W ++ W2) (tupE vs) = r at h6
      obtain ⟨v, H3, W3⟩ := r
      refine ⟨v, H3, W3, ⟨max n n2 + 1, fun m hm k hk => ?_⟩, h6⟩
      obtain ⟨k', rfl⟩ : ∃ k', k = k' + 1 := ⟨k - 1, by omega⟩
      have e1 := h1 m (by omega) k' (by omega)
      have e5 := h5 m (by omega) (k' + 1) (by omega)
      have hI' : (E.at m).I f args H = none := hI
      have hF' : (E.at m).F f = some fn := hF
      have hIg' : (E.at m).I g as H' = none := hIg
      have hFg' : (E.at m).F g = some fg := hFg
      have hvms : (E.at m).vms f = E.vms f := rfl
      have hpol : (E.at m).pol f = E.pol f := rfl
      have hres : resultsE (E.at m) (look env') H2 fn.results.toList = some vs := by rw [resultsE_at]; exact hvs'
      simp only [cfAt] at e1
      simp only [cfAt, callE, hIg', hFg', hcg, hndg, Bool.false_eq_true, if_false] at e5
      simp only [cfAt, callE, hI', hF', hb, hnd, if_true, callD, if_pos hn, hvms, e1]
      cases x with
      | exit id => exact absurd rfl (hx id)
      | normal => simp only [hFg', hcg, e5, hres, hpol, hfin]
      | ret => simp only [hFg', hcg, e5, hres, hpol, hfin]
    · exact h6.elim
end
end Go.Ev
end

/- The evaluator E: regions that draw their order, whose operations leave E's heap as it is: any order gives the same. -/
section
namespace Go.Ev
open Go
set_option linter.unusedSimpArgs false
set_option linter.unusedVariables false

def restr (ts : List Nat) (env : Env) : Look := fun t => if t ∈ ts then env[t]? else none
/-- On what an operation waits. -/
def waitsOn (o : Oper) : List Nat := (o.after.toList.filter fun e => Region.binds .any e).map (·.on)
def waitsAt (ops : Array Oper) (j : Nat) : List Nat := match ops[j]? with
  | some o => waitsOn o
  | none => []
def dstOf (ops : Array Oper) (j : Nat) : Option Nat := (ops[j]?).bind (·.dst)
/-- What is asked of a region: each waits on those ahead alone; no two have one place; what one looks at is made by what it waits on, or by what waits on it. -/
def calm (ops : Array Oper) : Bool :=
  (List.range ops.size).all fun i => match ops[i]? with
    | none => false
    | some o => (waitsOn o).all (fun j => decide (j < i)) && (List.range ops.size).all (fun j => match dstOf ops j with
      | none => true
      | some t => (decide (j = i) || dstOf ops i != some t) && (!(o.looksAt ops).contains t || (waitsOn o).contains j || (waitsAt ops j).contains i))

def quiet1 (E : EP) (cf : CallF) (ops : Array Oper) (env : Env) (H : Heap) (o : Oper) : Option EV :=
  match wantE ops (restr (o.looksAt ops) env) o with
  | some true => match stepE E cf (restr (o.looksAt ops) env) H o.op with
    | some (v, H', []) => if H'.length = H.length then some v else none
    | _ => none
  | some false => some .undef
  | none => none
def quietE (E : EP) (cf : CallF) (ops : Array Oper) (H : Heap) : List Nat → Env → Option Env
  | [], env => some env
  | i :: rest, env => match ops[i]? with
    | none => none
    | some o => match quiet1 E cf ops env H o with
      | some v => quietE E cf ops H rest (putE env o.dst v)
      | none => none
def drawE (E : EP) (cf : CallF) : DrawF := fun ops env H => if calm ops = true then match quietE E cf ops H (List.range ops.size) env with
    | some env' => some (env', H, [])
    | none => none
  else none

theorem drawE_grw (E : EP) (cf : CallF) : DfGrw (drawE E cf) := fun ops env H env' H' W h => by
  unfold drawE at h
  split at h
  · split at h
    · injection h with h; injection h with _ h; injection h with h h'; subst h; exact .refl
    · cases h
  · cases h

section
variable {ds : List Deferred} {P : Program} {E : EP} {cf : CallF} {Fr Fr' : Nat → Nat → Prop} {w w' : World} {β β' : Bt} {H H' : Heap} {env : Env} {a : Act} {ops : Array Oper}

theorem calm_spec (h : calm ops = true) {i : Nat} {o : Oper} (ho : ops[i]? = some o) :
    (∀ j ∈ waitsOn o, j < i) ∧ (∀ j t, dstOf ops j = some t → (j = i ∨ dstOf ops i ≠ some t) ∧ (t ∈ o.looksAt ops → j ∈ waitsOn o ∨ i ∈ waitsAt ops j)) := by
  unfold calm at h
  rw [List.all_eq_true] at h
  have hi : i < ops.size := (Array.getElem?_eq_some_iff.1 ho).1
  have := h i (List.mem_range.2 hi)
  rw [ho] at this
  simp only [Bool.and_eq_true, List.all_eq_true, decide_eq_true_eq] at this
  refine ⟨this.1, fun j t hj => ?_⟩
  have hjs : j < ops.size := by
    unfold dstOf at hj
    cases hx : ops[j]? with
    | none => rw [hx] at hj; cases hj
    | some x => exact (Array.getElem?_eq_some_iff.1 hx).1
  have h2 := this.2 j (List.mem_range.2 hjs)
  rw [hj] at h2
  simp only [Bool.and_eq_true, Bool.or_eq_true, decide_eq_true_eq, bne_iff_ne, ne_eq, Bool.not_eq_true', List.contains_eq_mem, decide_eq_false_iff_not] at h2
  refine ⟨h2.1, fun ht => ?_⟩
  rcases h2.2 with (h3 | h3) | h3
  · exact absurd ht h3
  · exact .inl h3
  · exact .inr h3

/-- The temporaries when some operations are done: each has made its value. -/
def Made (ops : Array Oper) (vals : Nat → EV) (env0 : Env) (done : Nat → Prop) (env : Env) : Prop :=
  env.length = env0.length ∧ (∀ j t, done j → dstOf ops j = some t → t < env0.length → env[t]? = some (vals j)) ∧ (∀ t, (∀ j, done j → dstOf ops j ≠ some t) → env[t]? = env0[t]?)

theorem Made.put (hc : calm ops = true) {vals : Nat → EV} {env0 : Env} {done : Nat → Prop} {env : Env} (h : Made ops vals env0 done env) {i : Nat} {o : Oper} (ho : ops[i]? = some o) :
    Made ops vals env0 (fun j => done j ∨ j = i) (putE env o.dst (vals i)) := by
  have hdi : dstOf ops i = o.dst := by simp [dstOf, ho]
  refine ⟨by rw [putE_length]; exact h.1, fun j t hj hd hlt => ?_, fun t hn => ?_⟩
  · cases hod : o.dst with
    | none =>
      rcases hj with hj | rfl
      · exact h.2.1 j t hj hd hlt
      · rw [hdi, hod] at hd; cases hd
    | some d =>
      simp only [putE]
      rw [List.getElem?_set]
      rcases hj with hj | rfl
      · by_cases e : d = t
        · subst e
          rcases (calm_spec hc ho).2 j d hd |>.1 with rfl | h2
          · rw [if_pos rfl, if_pos (by rw [h.1]; exact hlt)]
          · rw [hdi] at h2; exact absurd hod h2
        · rw [if_neg e]
          exact h.2.1 j t hj hd hlt
      · rw [hdi, hod] at hd
        injection hd with hd
        subst hd
        rw [if_pos rfl, if_pos (by rw [h.1]; exact hlt)]
  · have h2 := h.2.2 t (fun j hj => hn j (.inl hj))
    cases hod : o.dst with
    | none => exact h2
    | some d =>
      have : d ≠ t := fun e => hn i (.inr rfl) (by rw [hdi, hod, e])
      simp only [putE]
      rw [List.getElem?_set, if_neg this]
      exact h2

/-- Two states in which what an operation waits on is done, and nothing that waits on it: it sees the same. -/
theorem Made.same (hc : calm ops = true) {vals : Nat → EV} {env0 : Env} {d1 d2 : Nat → Prop} {e1 e2 : Env} (h1 : Made ops vals env0 d1 e1) (h2 : Made ops vals env0 d2 e2) {i : Nat} {o : Oper} (ho : ops[i]? = some o)
    (w1 : ∀ j ∈ waitsOn o, d1 j) (w2 : ∀ j ∈ waitsOn o, d2 j) (n1 : ∀ j, i ∈ waitsAt ops j → ¬ d1 j) (n2 : ∀ j, i ∈ waitsAt ops j → ¬ d2 j) {t : Nat} (ht : t ∈ o.looksAt ops) : e1[t]? = e2[t]? := by
  by_cases hlt : t < env0.length
  · by_cases hx : ∃ j, dstOf ops j = some t
    · obtain ⟨j, hj⟩ := hx
      rcases ((calm_spec hc ho).2 j t hj).2 ht with hw | hw
      · rw [h1.2.1 j t (w1 j hw) hj hlt, h2.2.1 j t (w2 j hw) hj hlt]
      · have hjo : ∃ oj, ops[j]? = some oj := by
          unfold waitsAt at hw
          cases hx : ops[j]? with
          | none => rw [hx] at hw; cases hw
          | some oj => exact ⟨oj, rfl⟩
        obtain ⟨oj, hoj⟩ := hjo
        have only : ∀ k, dstOf ops k = some t → k = j := fun k hk => by
          rcases ((calm_spec hc hoj).2 k t hk).1 with h | h
          · exact h
          · exact absurd hj h
        rw [h1.2.2 t (fun k hk hd => n1 j hw (only k hd ▸ hk)), h2.2.2 t (fun k hk hd => n2 j hw (only k hd ▸ hk))]
    · rw [h1.2.2 t (fun j _ hj => hx ⟨j, hj⟩), h2.2.2 t (fun j _ hj => hx ⟨j, hj⟩)]
  · rw [List.getElem?_eq_none (by rw [h1.1]; omega), List.getElem?_eq_none (by rw [h2.1]; omega)]

/-- What E computed, in the listed order: for each operation its value. -/
theorem quiet_vals (hc : calm ops = true) : ∀ (n i : Nat) (vals : Nat → EV) (env0 env env' : Env), n + i = ops.size → Made ops vals env0 (fun j => j < i) env → quietE E cf ops H (List.range' i n) env = some env' →
    ∃ vals' : Nat → EV, (∀ j, j < i → vals' j = vals j) ∧ Made ops vals' env0 (fun j => j < ops.size) env' ∧ ∀ j o, i ≤ j → ops[j]? = some o → ∃ e, Made ops vals' env0 (fun k => k < j) e ∧ quiet1 E cf ops e H o = some (vals' j) := by
  intro n
  induction n with
  | zero =>
    intro i vals env0 env env' hn hm h
    simp only [List.range'_zero, quietE] at h
    injection h with h
    subst h
    have : i = ops.size := by omega
    subst this
    exact ⟨vals, fun _ _ => rfl, hm, fun j o hj ho => by have := (Array.getElem?_eq_some_iff.1 ho).1; omega⟩
  | succ n ih =>
    intro i vals env0 env env' hn hm h
    simp only [List.range'_succ, quietE] at h
    split at h
    · cases h
    · rename_i o ho
      split at h
      · rename_i v hv
        have hm0 : Made ops (fun j => if j = i then v else vals j) env0 (fun j => j < i) env := by
          refine ⟨hm.1, fun j t hj hd hlt => ?_, hm.2.2⟩
          have hji : j < i := hj
          show env[t]? = some (if j = i then v else vals j)
          rw [if_neg (by omega)]
          exact hm.2.1 j t hj hd hlt
        have hm1 := hm0.put hc ho
        simp only [if_true] at hm1
        have hm2 : Made ops (fun j => if j = i then v else vals j) env0 (fun j => j < i + 1) (putE env o.dst v) :=
          ⟨hm1.1, fun j t hj => hm1.2.1 j t (by omega), fun t hn => hm1.2.2 t (fun j hj => hn j (by omega))⟩
        obtain ⟨vals', g1, g2, g3⟩ := ih (i + 1) _ env0 _ env' (by omega) hm2 h
        have hvi : vals' i = v := by rw [g1 i (by omega), if_pos rfl]
        refine ⟨vals', fun j hj => by rw [g1 j (by omega), if_neg (by omega)], g2, fun j o' hj ho' => ?_⟩
        rcases Nat.lt_or_ge i j with hlt | hge
        · exact g3 j o' (by omega) ho'
        · have : j = i := by omega
          subst this
          rw [ho] at ho'
          injection ho' with ho'
          subst ho'
          refine ⟨env, ⟨hm.1, fun k t hk hd hlt => ?_, hm.2.2⟩, by rw [hvi]; exact hv⟩
          have hk' : k < j := hk
          rw [g1 k (by omega), if_neg (by omega)]
          exact hm.2.1 k t hk hd hlt
      · cases h

theorem step_ok' {l : Look} (hT : E.T = tiOf P) (hc : CallOk P E.G cf) {o : Oper} {v : EV} {W : List Nat} {next : Act → World → Prop} {Q : Exit → Act → World → Prop} (hr : Rel Fr β H w) (hg : GOk E.G Fr w β) (hopd : Opd Fr w β E.G l a.eval) (h : stepE E cf l H o.op = some (v, H', W))
    (hn : ∀ Fr' β' w' val, Ok Fr β H w Fr' β' H' w' → VR Fr' w' β' v val → next (a.put o.dst val) w') : o.wp P a w next Q := by
  have plain : opE E l H o.op = some (v, H', W) → o.wp P a w next Q := fun h => by
    obtain ⟨nx, w', Fr', β', h1, h2, h3⟩ := opE_ok hr hT hopd (fun _ => rfl) h
    unfold Oper.wp
    rw [h1]
    cases h3 with
    | value hv => exact hn _ _ _ _ h2 hv
    | skip => exact hn _ _ _ _ h2 .undef
  unfold stepE at h
  split at h
  · rename_i f as ts hop
    split at h
    · rename_i g x y vs hf has
      have hfv := hopd _ _ hf
      have hav := evL_ok hopd _ _ has
      generalize hfr : a.eval f = fv at hfv
      cases hfv with
      | fn hx hy =>
        rename_i us ws
        have hall := (hx.append hav).append hy
        have hy' := hc _ _ _ _ _ _ h Fr β w _ hr hg hall
        have hrun : (execOp a.eval o).run P w = (callFunc g (us ++ List.map a.eval as.toList ++ ws).toArray).run P w := by
          obtain ⟨dst, op, ty, pos, after, guard⟩ := o
          simp only at hop
          subst hop
          simp only [execOp, resolve, hfr, Deferred.ofValue, Sem.run_bind, Sem.run_pure, Result.andThen_ok, invoke]
          congr 2
          apply Array.ext'
          simp
        unfold Oper.wp
        rw [hrun]
        rcases hy' with ⟨h1, h2⟩ | ⟨val, w', h1, h2⟩
        · rw [h1]
          simp only [Oper.upon]
          refine h2.mono fun e w'' hR => ?_
          obtain ⟨val, Fr', β', rfl, hok, hv⟩ := hR
          exact hn _ _ _ _ hok hv
        · rw [h1]
          simp only [Oper.upon]
          obtain ⟨val', Fr', β', e, hok, hv⟩ := h2
          injection e with e
          subst e
          exact hn _ _ _ _ hok hv
    · cases h
  · exact plain h

theorem grw_same (h : Grw H H' []) (hl : H'.length = H.length) : H' = H := by
  apply List.ext_getElem?
  intro i
  by_cases hi : i < H.length
  · exact h.2 i hi (by simp)
  · rw [List.getElem?_eq_none (by omega), List.getElem?_eq_none (by omega)]

theorem filter_less {p p' : Nat → Bool} {i : Nat} (hp : p i = true) (hp' : p' i = false) (h : ∀ j, j ≠ i → p' j = p j) : ∀ l : List Nat, l.Nodup → i ∈ l → (l.filter p).length = (l.filter p').length + 1
  | [], _, hi => by simp at hi
  | a :: l, hn, hi => by
    rw [List.nodup_cons] at hn
    by_cases e : a = i
    · subst e
      have hsame : l.filter p = l.filter p' := List.filter_congr fun j hj => (h j (fun e => hn.1 (e ▸ hj))).symm
      rw [List.filter_cons_of_pos hp, List.filter_cons_of_neg (by simp [hp']), hsame]
      rfl
    · have hi' : i ∈ l := by
        rcases List.mem_cons.1 hi with h | h
        · exact absurd h.symm e
        · exact h
      have ih := filter_less hp hp' h l hn.2 hi'
      have ha := h a e
      by_cases hpa : p a = true
      · rw [List.filter_cons_of_pos hpa, List.filter_cons_of_pos (by rw [ha]; exact hpa)]
        simp [ih]
      · rw [List.filter_cons_of_neg hpa, List.filter_cons_of_neg (by rw [ha]; exact hpa)]
        exact ih

theorem ready_mem {listed : Array Bool} {i : Nat} (h : i ∈ Region.ready .any ops listed) : ∃ o, ops[i]? = some o ∧ listed.getD i true = false ∧ ∀ j ∈ waitsOn o, listed.getD j false = true := by
  unfold Region.ready at h
  rw [List.mem_filter] at h
  obtain ⟨h1, h2⟩ := h
  rw [Bool.and_eq_true] at h2
  cases ho : ops[i]? with
  | none => rw [ho] at h2; simp at h2
  | some o =>
    rw [ho] at h2
    refine ⟨o, rfl, by simpa using h2.1, fun j hj => ?_⟩
    have h3 := h2.2
    simp only [Option.map_some, Option.getD_some] at h3
    rw [← Array.all_toList, List.all_eq_true] at h3
    unfold waitsOn at hj
    rw [List.mem_map] at hj
    obtain ⟨e, he, rfl⟩ := hj
    rw [List.mem_filter] at he
    have := h3 e he.1
    rw [he.2] at this
    simpa using this
theorem ready_some (hc : calm ops = true) {listed : Array Bool} (hl : listed.size = ops.size) (h : Region.ready .any ops listed = []) : ∀ i, i < ops.size → listed.getD i false = true := by
  intro i
  induction i using Nat.strongRecOn with
  | _ i ih =>
    intro hi
    have ho : ops[i]? = some ops[i] := Array.getElem?_eq_getElem hi
    by_cases hli : listed.getD i false = true
    · exact hli
    · exfalso
      have : i ∈ Region.ready .any ops listed := by
        unfold Region.ready
        rw [List.mem_filter]
        refine ⟨List.mem_range.2 hi, ?_⟩
        rw [Bool.and_eq_true]
        refine ⟨?_, ?_⟩
        · have : listed.getD i true = listed.getD i false := by simp [Array.getD, hl, hi]
          rw [this]
          simpa using hli
        · rw [ho]
          simp only [Option.map_some, Option.getD_some]
          rw [← Array.all_toList, List.all_eq_true]
          intro e he
          by_cases hb : Region.binds .any e = true
          · have hw : e.on ∈ waitsOn ops[i] := by
              unfold waitsOn
              exact List.mem_map.2 ⟨e, List.mem_filter.2 ⟨he, hb⟩, rfl⟩
            have hlt := (calm_spec hc ho).1 _ hw
            have := ih e.on hlt (by omega)
            simp [this]
          · simp [hb]
      rw [h] at this
      cases this

theorem draw_ok (hmix : P.follows .mixedOrders = true) (hT : E.T = tiOf P) (hcG : CfGrw cf) (hc : CallOk P E.G cf) : DrawOk P E.G (drawE E cf) := by
  intro ops env H env' H' W h ds id Fr β w a Q hr hg ha hq
  unfold drawE at h
  split at h
  · rename_i hcalm
    split at h
    · rename_i env2 hq2
      injection h with h; injection h with h1 h; injection h with h _
      subst h1; subst h
      have hm0 : Made ops (fun _ => .undef) env (fun j => j < 0) env := ⟨rfl, fun j t hj => absurd hj (by omega), fun _ _ => rfl⟩
      rw [List.range_eq_range'] at hq2
      obtain ⟨vals, _, hall, hvals⟩ := quiet_vals hcalm ops.size 0 _ env env env2 (by omega) hm0 hq2
      refine wp_region_any hmix ?_
      have hd0 := Ok.drew hr (w.drawn + 1)
      -- the operations that are listed are done
      have key : ∀ (n : Nat) (listed : Array Bool) (Fr' : Nat → Nat → Prop) (β' : Bt) (w' : World) (a' : Act) (e : Env), listed.size = ops.size → ((List.range ops.size).filter fun i => !listed.getD i true).length = n →
          Ok Fr β H w Fr' β' H w' → AR ds Fr' w' β' e a' → Made ops vals env (fun j => listed.getD j false = true) e → (∀ j, listed.getD j false = true → ∀ k ∈ waitsAt ops j, listed.getD k false = true) → wpAny P .any ops Q n listed a' w' := by
        have fin : ∀ (listed : Array Bool) (Fr' : Nat → Nat → Prop) (β' : Bt) (w' : World) (a' : Act) (e : Env), Ok Fr β H w Fr' β' H w' → AR ds Fr' w' β' e a' → Made ops vals env (fun j => listed.getD j false = true) e → (∀ i, i < ops.size → listed.getD i false = true) → Q .normal a' w' := by
          intro listed Fr' β' w' a' e hok har hm hfull
          have : e = env2 := by
            apply List.ext_getElem?
            intro t
            by_cases hlt : t < env.length
            · by_cases hx : ∃ j, dstOf ops j = some t
              · obtain ⟨j, hj⟩ := hx
                have hjs : j < ops.size := by
                  unfold dstOf at hj
                  cases hx : ops[j]? with
                  | none => rw [hx] at hj; cases hj
                  | some x => exact (Array.getElem?_eq_some_iff.1 hx).1
                rw [hm.2.1 j t (hfull j hjs) hj hlt, hall.2.1 j t hjs hj hlt]
              · rw [hm.2.2 t (fun j _ hj => hx ⟨j, hj⟩), hall.2.2 t (fun j _ hj => hx ⟨j, hj⟩)]
            · rw [List.getElem?_eq_none (by rw [hm.1]; omega), List.getElem?_eq_none (by rw [hall.1]; omega)]
          subst this
          exact hq _ _ _ _ hok har
        intro n
        induction n with
        | zero =>
          intro listed Fr' β' w' a' e hsz hn hok har hm hcl
          have hnil : Region.ready .any ops listed = [] := by
            rw [List.eq_nil_iff_forall_not_mem]
            intro i hi
            obtain ⟨o, ho, h1, _⟩ := ready_mem hi
            have : i ∈ (List.range ops.size).filter fun i => !listed.getD i true := List.mem_filter.2 ⟨List.mem_range.2 (Array.getElem?_eq_some_iff.1 ho).1, by simp [h1]⟩
            rw [List.length_eq_zero_iff.1 hn] at this
            cases this
          exact ⟨hnil, fin listed Fr' β' w' a' e hok har hm (ready_some hcalm hsz hnil)⟩
        | succ n ih =>
          intro listed Fr' β' w' a' e hsz hn hok har hm hcl
          refine ⟨fun hnil => fin listed Fr' β' w' a' e hok har hm (ready_some hcalm hsz hnil), fun i hi => ?_⟩
          obtain ⟨o, ho, hli, hwait⟩ := ready_mem hi
          have his : i < ops.size := (Array.getElem?_eq_some_iff.1 ho).1
          obtain ⟨e0, hm0, hq0⟩ := hvals i o (by omega) ho
          -- what it looks at is as it was
          have hsame : ∀ t v, restr (o.looksAt ops) e0 t = some v → look e t = some v := by
            intro t v htv
            unfold restr at htv
            split at htv
            · rename_i ht
              have hun : listed.getD i false = false := by
                have : listed.getD i true = listed.getD i false := by simp [Array.getD, hsz, his]
                rw [← this]; exact hli
              have := Made.same hcalm hm0 hm ho (fun j hj => (calm_spec hcalm ho).1 j hj) hwait (fun j hj hlt => by
                unfold waitsAt at hj
                split at hj
                · rename_i oj hoj
                  have := (calm_spec hcalm hoj).1 i hj
                  omega
                · cases hj) (fun j hj hlt => by
                have := hcl j hlt i hj
                rw [hun] at this
                cases this) ht
              show e[t]? = some v
              rw [← this]
              exact htv
            · cases htv
          have hset : (listed.setIfInBounds i true).size = ops.size := by simpa using hsz
          have hcount : ((List.range ops.size).filter fun j => !(listed.setIfInBounds i true).getD j true).length = n := by
            have := filter_less (p := fun j => !listed.getD j true) (p' := fun j => !(listed.setIfInBounds i true).getD j true) (i := i) (by simp [hli]) (by simp [Array.getD_eq_getD_getElem?, hsz, his]) (fun j hj => by simp [Array.getD_eq_getD_getElem?, Array.getElem?_setIfInBounds_ne (fun e' => hj e'.symm)]) (List.range ops.size) List.nodup_range (List.mem_range.2 his)
            omega
          have next : ∀ (Fr2 : Nat → Nat → Prop) (β2 : Bt) (w2 : World) (val : Value), Ok Fr' β' H w' Fr2 β2 H w2 → VR Fr2 w2 β2 (vals i) val → wpAny P .any ops Q n (listed.setIfInBounds i true) (a'.put o.dst val) w2 := by
            intro Fr2 β2 w2 val hok2 hval
            have hcl2 : ∀ j, (listed.setIfInBounds i true).getD j false = true → ∀ k ∈ waitsAt ops j, (listed.setIfInBounds i true).getD k false = true := by
              intro j hj k hk
              by_cases ek : k = i
              · subst ek
                simp [Array.getD_eq_getD_getElem?, hsz, his]
              · have hkl : listed.getD k false = true := by
                  by_cases ej : j = i
                  · subst ej
                    refine hwait k ?_
                    unfold waitsAt at hk
                    rw [ho] at hk
                    exact hk
                  · refine hcl j ?_ k hk
                    simpa [Array.getD_eq_getD_getElem?, Array.getElem?_setIfInBounds_ne (fun e' => ej e'.symm)] using hj
                simpa [Array.getD_eq_getD_getElem?, Array.getElem?_setIfInBounds_ne (fun e' => ek e'.symm)] using hkl
            refine ih _ Fr2 β2 w2 _ (putE e o.dst (vals i)) hset hcount (hok.trans hok2) ((har.step hok.rel hok2).put hval _) ?_ hcl2
            have := hm.put hcalm ho
            refine ⟨this.1, fun j t hj hd hlt => this.2.1 j t ?_ hd hlt, fun t hn => this.2.2 t fun j hj => hn j ?_⟩
            · by_cases e : j = i
              · exact .inr e
              · left
                simpa [Array.getD_eq_getD_getElem?, Array.getElem?_setIfInBounds_ne (fun e' => e e'.symm)] using hj
            · rcases hj with hj | rfl
              · by_cases e : j = i
                · subst e
                  simp [Array.getD_eq_getD_getElem?, hsz, his]
                · simpa [Array.getD_eq_getD_getElem?, Array.getElem?_setIfInBounds_ne (fun e' => e e'.symm)] using hj
              · simp [Array.getD_eq_getD_getElem?, hsz, his]
          unfold wpOp
          rw [ho]
          unfold quiet1 at hq0
          split at hq0
          · rename_i hw
            have hw' := wantE_mono hsame hw
            simp only [want_ok har hw', if_true]
            left
            split at hq0
            · rename_i v H2 hst
              split at hq0
              · rename_i hlen
                injection hq0 with hq0
                have hH : H2 = H := grw_same (stepE_grw hcG hst) hlen
                subst hH
                have hg' := hg.step hr hok
                refine step_ok' hT hc hok.rel hg' (fun x ev hx => (har.opd hg') x ev (evO_mono hsame hx)) hst fun Fr2 β2 w2 val hok2 hval => next Fr2 β2 w2 val hok2 (by rw [← hq0]; exact hval)
              · cases hq0
            · cases hq0
          · rename_i hw
            have hw' := wantE_mono hsame hw
            injection hq0 with hq0
            simp only [want_ok har hw', Bool.false_eq_true, if_false]
            exact next Fr' β' w' _ (Ok.refl hok.rel) (by rw [← hq0]; exact .undef)
          · cases hq0
      refine key ops.size _ Fr β _ a env (by simp) ?_ hd0 (ha.step hr hd0) ⟨rfl, fun j t hj => ?_, fun _ _ => rfl⟩ (fun j hj => ?_)
      · rw [List.filter_eq_self.2]
        · simp
        · intro i hi
          have := List.mem_range.1 hi
          simp [Array.getD_eq_getD_getElem?, this]
      · exfalso
        simp [Array.getD_eq_getD_getElem?, Array.getElem?_replicate] at hj
        split at hj <;> simp at hj
      · exfalso
        simp [Array.getD_eq_getD_getElem?, Array.getElem?_replicate] at hj
        split at hj <;> simp at hj
    · cases h
  · cases h
end
end Go.Ev
end

/- The evaluator E: what an operation does on part of the heap it does on all of it. -/
section
namespace Go.Ev
open Go
set_option linter.unusedSimpArgs false
set_option linter.unusedVariables false

/-- A heap of which some objects are not looked at. -/
def Sub (H Hs : Heap) : Prop := H.length = Hs.length ∧ ∀ (o : Nat) (x : EO), H[o]? = some x → x ≠ .dead → Hs[o]? = some x

section
variable {Fr Fr' : Nat → Nat → Prop} {w w' : World} {β β' : Bt} {H Hs : Heap}

theorem Sub.refl : Sub H H := ⟨rfl, fun _ _ h _ => h⟩
theorem Sub.alive (h : Sub H Hs) {o : Nat} (ha : alive H o) : alive Hs o := by
  obtain ⟨x, hx, hn⟩ := ha
  exact ⟨x, h.2 o x hx hn, hn⟩
theorem Sub.imc (h : Sub H Hs) {b x : Nat} (hi : ImC β H b x) : ImC β Hs b x := by
  obtain ⟨o, s, ob, h1, h2, h3⟩ := hi
  exact ⟨o, s, ob, h1, h.2 o ob h2 (fun e => by subst e; exact h3), h3⟩
theorem Sub.im (h : Sub H Hs) {b : Nat} (hi : Im β H b) : Im β Hs b := by
  obtain ⟨o, s, h1, h2⟩ := hi
  exact ⟨o, s, h1, h.alive h2⟩

theorem Rel.forget (hr : Rel Fr β Hs w) (h : Sub H Hs) : Rel Fr β H w :=
  ⟨hr.len.trans h.1.symm, fun o cs b s ho hb => hr.cells o cs b s (h.2 o _ ho (by simp)) hb, fun o es b s ho hb => hr.maps o es b s (h.2 o _ ho (by simp)) hb, fun o m b s ho hb => hr.tips o m b s (h.2 o _ ho (by simp)) hb,
    fun o b s hb ha => hr.live o b s hb (h.alive ha), fun b x hi => hr.free b x (h.imc hi), fun o o' b s s' h1 h2 a1 a2 => hr.inj o o' b s s' h1 h2 (h.alive a1) (h.alive a2), hr.old⟩

/-- What leaves a part of the heap as it is leaves all of it. -/
theorem Ok.frame (hr : Rel Fr β Hs w) (h : Sub H Hs) (hok : Ok Fr β H w Fr' β' H w') : Ok Fr β Hs w Fr' β' Hs w' := by
  have hrs := hr.forget h
  have hback : ∀ (o : Nat) (x : Nat × Nat), o < Hs.length → β'[o]? = some (some x) → β[o]? = some (some x) := fun o x ho hb => ext_back hrs.len hok hb (by have := h.1; omega)
  have hlt : ∀ (o : Nat) (x : EO), Hs[o]? = some x → o < Hs.length := fun o x hx => (List.getElem?_eq_some_iff.1 hx).1
  have mono : ∀ {es : List EV} {vs : List Value}, VRs Fr w β es vs → VRs Fr' w' β' es vs := fun hv => hok.vrs hrs hv
  -- an object that is not looked at keeps its block
  have hkeep : ∀ (o b s : Nat) (x : EO), Hs[o]? = some x → x ≠ .dead → β[o]? = some (some (b, s)) → ¬ (H[o]? = some x) → ¬ Im β H b := by
    rintro o b s x hx hn hb hnot ⟨o2, s2, h1, ⟨y, hy, hny⟩⟩
    have := hr.inj o o2 b s s2 hb h1 ⟨x, hx, hn⟩ ⟨y, h.2 o2 y hy hny, hny⟩
    subst this
    have h5 := h.2 o y hy hny
    rw [hx] at h5
    injection h5 with h5
    subst h5
    exact hnot hy
  have hsz : β'.length = Hs.length := by rw [hok.rel.len, h.1]
  have himc : ∀ b x, ImC β' Hs b x → ImC β Hs b x := by
    rintro b x ⟨o, s, ob, h1, h2, h3⟩
    exact ⟨o, s, ob, hback o _ (hlt o _ h2) h1, h2, h3⟩
  refine ⟨⟨hsz, ?_, ?_, ?_, ?_, ?_, ?_, hok.rel.old⟩, hok.ext, hok.ext', hok.fr, ⟨hok.stp.os, hok.stp.tape, hok.stp.output, hok.stp.size, hok.stp.shape, fun b hb hn => hok.stp.block b hb (fun hi => hn (h.im hi)), fun b x hb hn => hok.stp.cell b x hb (fun hi => hn (h.imc hi))⟩, ?_, fun b x _ hi => himc b x hi, fun b x hb hf => ?_⟩
  · intro o cs b s ho hb
    have hb0 := hback o _ (hlt o _ ho) hb
    by_cases hH : H[o]? = some (EO.cells cs)
    · exact hok.rel.cells o cs b s hH hb
    · obtain ⟨rc, t, fr, vs, hh, hv, hc⟩ := hr.cells o cs b s ho hb0
      have := hok.stp.block b (Array.getElem?_eq_some_iff.1 hh).1 (hkeep o b s _ ho (by simp) hb0 hH)
      exact ⟨rc, t, fr, vs, this.trans hh, mono hv, hc⟩
  · intro o es b s ho hb
    have hb0 := hback o _ (hlt o _ ho) hb
    by_cases hH : H[o]? = some (EO.map es)
    · exact hok.rel.maps o es b s hH hb
    · obtain ⟨ents, c, hh, hv1, hv2⟩ := hr.maps o es b s ho hb0
      have := hok.stp.block b (Array.getElem?_eq_some_iff.1 hh).1 (hkeep o b s _ ho (by simp) hb0 hH)
      exact ⟨ents, c, this.trans hh, mono hv1, mono hv2⟩
  · intro o m b s ho hb
    have hb0 := hback o _ (hlt o _ ho) hb
    by_cases hH : H[o]? = some (EO.tip m)
    · exact hok.rel.tips o m b s hH hb
    · obtain ⟨rc, t, fr, hh⟩ := hr.tips o m b s ho hb0
      have := hok.stp.block b (Array.getElem?_eq_some_iff.1 hh).1 (hkeep o b s _ ho (by simp) hb0 hH)
      exact ⟨rc, t, fr, this.trans hh⟩
  · rintro o b s hb ⟨x, hx, hn⟩
    have := hr.live o b s (hback o _ (hlt o _ hx) hb) ⟨x, hx, hn⟩
    have := hok.stp.size
    omega
  · rintro b x ⟨o, s, ob, h1, h2, h3⟩ hf
    have hb0 := hback o _ (hlt o _ h2) h1
    have hnd : ob ≠ .dead := fun e => by subst e; exact h3
    by_cases hH : H[o]? = some ob
    · exact hok.rel.free b x ⟨o, s, ob, h1, hH, h3⟩ hf
    · have hbl := hr.live o b s hb0 ⟨ob, h2, hnd⟩
      rcases hok.frn b x hbl hf with hf | ⟨o2, s2, ob2, g1, g2, g3⟩
      · exact hr.free b x ⟨o, s, ob, hb0, h2, h3⟩ hf
      · exact hkeep o b s ob h2 hnd hb0 hH ⟨o2, s2, g1, owns_alive g2 g3⟩
  · rintro o o' b s s' h1 h2 ⟨x, hx, hn⟩ ⟨x', hx', hn'⟩
    exact hr.inj o o' b s s' (hback o _ (hlt o _ hx) h1) (hback o' _ (hlt o' _ hx') h2) ⟨x, hx, hn⟩ ⟨x', hx', hn'⟩
  · rintro b _ ⟨o, s, h1, ⟨x, hx, hn⟩⟩
    exact ⟨o, s, hback o _ (hlt o _ hx) h1, x, hx, hn⟩
  · rcases hok.frn b x hb hf with hf | hf
    · exact .inl hf
    · exact .inr (h.imc hf)
end
end Go.Ev
end
