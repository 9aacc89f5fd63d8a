/- The evaluator E: regions that draw their order and write, by a plan that is worked out ahead. -/
import Derived.Test.YtkenfmphlggmcaaDoorQ9

section
namespace Go.Ev
open Go
set_option linter.unusedSimpArgs false
set_option linter.unusedVariables false

/-- What an operation of such a region is: a birth (its number), a call (is something born in the region? the births it does not wait on), an active one (likewise), a passive one (is it done ahead of all that writes?). -/
inductive DT where
  | b (q : Nat)
  | c (q : Bool) (d : List Nat)
  | a (d : List Nat)
  | p (e : Bool)
def deadsE (T : TT) (ops : Array Oper) (o : Oper) : List Nat := ((bornBefore T ops ops.size).zipIdx.filter fun q => !(waitsOn o).contains q.1).map (·.2)
def planAt (T : TT) (ops : Array Oper) (i : Nat) (o : Oper) : DT := match birthAt T ops i with
  | some _ => .b (bornBefore T ops i).length
  | none => if isActive o.op then (if isCallV o.op then .c (!(bornBefore T ops ops.size).isEmpty) (deadsE T ops o) else .a (deadsE T ops o)) else .p (early T ops i)
def planL (T : TT) (ops : Array Oper) : List Oper → Nat → List DT
  | [], _ => []
  | o :: r, i => planAt T ops i o :: planL T ops r (i + 1)
def planE (T : TT) (ops : Array Oper) : List DT := planL T ops ops.toList 0
/-- The heap on which an active operation is looked at. -/
def lookM (base : Nat) (d : List Nat) (H : Heap) : Heap := maskE H fun p => d.any fun q => p == base + q
def passM (base : Nat) (Wl : List Nat) (e : Bool) (H1 : Heap) : Heap := maskE H1 fun p => decide (base ≤ p) || (!e && Wl.contains p)
theorem maskE_false {H : Heap} {f : Nat → Bool} (h : ∀ p, f p = false) : maskE H f = H := by
  unfold maskE
  simp only [h]
  simp
theorem lookM_nil {base : Nat} {H : Heap} : lookM base [] H = H := maskE_false fun _ => rfl
theorem lookM_eq {T : TT} {ops : Array Oper} {base : Nat} {o : Oper} {H : Heap} : lookH T ops base o H = lookM base (deadsE T ops o) H := by
  unfold lookH lookM deadsE
  split
  · rename_i h
    rw [h]
    exact (maskE_false fun _ => rfl).symm
  · congr 1
    funext p
    rw [Bool.eq_iff_iff]
    simp only [List.any_eq_true, List.mem_map, List.mem_filter, Bool.and_eq_true, beq_iff_eq]
    constructor
    · rintro ⟨q, h1, h2, h3⟩
      exact ⟨q.2, ⟨q, ⟨h1, h3⟩, rfl⟩, h2⟩
    · rintro ⟨_, ⟨q, ⟨h1, h3⟩, rfl⟩, h2⟩
      exact ⟨q, h1, h2, h3⟩
theorem mask_get {H : Heap} {f : Nat → Bool} {o : Nat} (h : f o = false) : (maskE H f)[o]? = H[o]? := by
  simp [maskE, List.getElem?_zipIdx]
  cases H[o]? with
  | none => rfl
  | some x => simp [h]
theorem mask_length {H : Heap} {f : Nat → Bool} : (maskE H f).length = H.length := by simp [maskE]
theorem pass_length {base : Nat} {Wl : List Nat} {e : Bool} {H : Heap} : (passM base Wl e H).length = H.length := mask_length
theorem pass_early {H : Heap} {base : Nat} {Wl : List Nat} {o : Nat} (h : o < base) : (passM base Wl true H)[o]? = H[o]? := by
  unfold passM
  rw [mask_get (by simp; omega)]
theorem pass_late {H : Heap} {base : Nat} {Wl : List Nat} {o : Nat} (h : o < base) (hw : o ∉ Wl) : (passM base Wl false H)[o]? = H[o]? := by
  unfold passM
  rw [mask_get (by simp [hw]; omega)]
theorem look_get {base o : Nat} {d : List Nat} {H : Heap} (h : ∀ q ∈ d, o ≠ base + q) : (lookM base d H)[o]? = H[o]? := by
  unfold lookM
  rw [mask_get (by simpa using h)]
theorem look_length {base : Nat} {d : List Nat} {H : Heap} : (lookM base d H).length = H.length := mask_length
/-- Is nothing dead there? -/
def aliveE (H : Heap) : List Nat → Prop
  | [] => True
  | o :: r => deadAt H o = false ∧ aliveE H r
theorem aliveE_all {H : Heap} : ∀ {W : List Nat}, aliveE H W → (W.all fun p => !deadAt H p) = true
  | [], _ => rfl
  | o :: r, h => by simp only [List.all_cons, h.1, Bool.not_false, Bool.true_and]; exact aliveE_all h.2
def inE (Wl : List Nat) : List Nat → Prop
  | [] => True
  | o :: r => o ∈ Wl ∧ inE Wl r
theorem inE_all {Wl : List Nat} : ∀ {W : List Nat}, inE Wl W → ∀ x ∈ W, x ∈ Wl
  | [], _, x, hx => by cases hx
  | o :: r, h, x, hx => by
    rcases List.mem_cons.1 hx with rfl | hx
    · exact h.1
    · exact inE_all h.2 x hx

section
variable (E : EP) (D : EP → CallF → DrawF)
def draw2S (N : Nat) (ops : Array Oper) (H0 : Heap) (born : List EO) (Wl : List Nat) : List Oper → List DT → Mm → Heap → List Nat → (EX → Mm → Heap → List Nat → Prop) → Prop
  | [], [], M, Hc, W, K => inE Wl W ∧ K .normal M Hc W
  | o :: rest, t :: pl, M, Hc, W, K => dstOk N o.dst = true ∧ match t with
    | .b q => draw2S N ops H0 born Wl rest pl (putM M o.dst (.ptr (H0.length + q) 0)) Hc W K
    | .c q d => wantP ops.toList (restrM (o.looksAt ops) M) o
        (stepP E D E.vm (restrM (o.looksAt ops) M) (lookM H0.length d Hc) o.op fun v H' W' => match q with
          | true => W' = [] ∧ (finishE 0 (lookM H0.length d Hc) H' [] v).2.2 = [] ∧ (finishE 0 (lookM H0.length d Hc) H' [] v).2.1.length = Hc.length ∧ draw2S N ops H0 born Wl rest pl (putM M o.dst (finishE 0 (lookM H0.length d Hc) H' [] v).1) Hc W K
          | false => draw2S N ops H0 born Wl rest pl (putM M o.dst v) H' (W ++ W') K)
        (draw2S N ops H0 born Wl rest pl (putM M o.dst .undef) Hc W K)
    | .a d => wantP ops.toList (restrM (o.looksAt ops) M) o
        (match opE E (restrM (o.looksAt ops) M) (lookM H0.length d Hc) o.op with
          | some (v, _, W') => aliveE (lookM H0.length d Hc) W' ∧ match opE E (restrM (o.looksAt ops) M) Hc o.op with
            | some (_, H2, _) => draw2S N ops H0 born Wl rest pl (putM M o.dst v) H2 (W ++ W') K
            | none => False
          | none => False)
        (draw2S N ops H0 born Wl rest pl (putM M o.dst .undef) Hc W K)
    | .p e => wantP ops.toList (restrM (o.looksAt ops) M) o
        (stepP E D E.vm (restrM (o.looksAt ops) M) (passM H0.length Wl e (H0 ++ born)) o.op fun v H' W' => W' = [] ∧ H'.length = H0.length + born.length ∧ draw2S N ops H0 born Wl rest pl (putM M o.dst v) Hc W K)
        (draw2S N ops H0 born Wl rest pl (putM M o.dst .undef) Hc W K)
  | _, _, _, _, _, _ => False
end
theorem wantP_mono {ops : List Oper} {l : Look} {o : Oper} {A A' B B' : Prop} (h : wantP ops l o A B) (ha : A → A') (hb : B → B') : wantP ops l o A' B' := by
  cases hg : o.guard with
  | none => simp only [wantP, hg] at h ⊢; exact ha h
  | some p =>
    obtain ⟨j, want⟩ := p
    simp only [wantP, hg] at h ⊢
    revert h
    cases (ops[j]?).bind (·.dst) with
    | none => exact id
    | some d =>
      dsimp only
      cases l d with
      | none => exact id
      | some v => cases v with
        | bool b => exact fun h => ⟨fun x => ha (h.1 x), fun x => hb (h.2 x)⟩
        | undef => exact hb
        | _ => exact id
section
variable {E : EP} {D : EP → CallF → DrawF} {N : Nat}
theorem stepP_mono {vm : Bool} {l : Look} {H : Heap} {op : Op} {Q Q' : EV → Heap → List Nat → Prop} (h : stepP E D vm l H op Q) (hq : ∀ v H1 W1, Q v H1 W1 → Q' v H1 W1) : stepP E D vm l H op Q' := by
  unfold stepP at h ⊢
  repeat' split at h
  all_goals first | (exact h.elim) | skip
  · simp_all
  · exact ⟨fun x => hq _ _ _ (h.1 x), fun x => hq _ _ _ (h.2 x)⟩
  · exact hq _ _ _ h
theorem draw2S_ok {ops : Array Oper} {H0 : Heap} {born : List EO} {Wl : List Nat} {K : EX → Mm → Heap → List Nat → Prop} : ∀ (l : List Oper) (i : Nat) (M : Mm) (Hc : Heap) (W : List Nat), draw2S E D N ops H0 born Wl l (planL E.T ops l i) M Hc W K → draw2P E D N ops H0.length (H0 ++ born) Wl l i M Hc W fun M' H' W => (∀ x ∈ W, x ∈ Wl) ∧ K .normal M' H' W := by
  intro l
  induction l with
  | nil => intro i M Hc W h; exact ⟨inE_all h.1, h.2⟩
  | cons o l ih =>
    intro i M Hc W h
    simp only [planL, draw2S, planAt] at h
    simp only [draw2P]
    refine ⟨h.1, ?_⟩
    have h2 := h.2
    cases hb : birthAt E.T ops i with
    | some x =>
      rw [hb] at h2
      exact ih _ _ _ _ h2
    | none =>
      rw [hb] at h2
      dsimp only at h2 ⊢
      by_cases ha : isActive o.op = true
      · rw [if_pos ha] at h2 ⊢
        by_cases hv : isCallV o.op = true
        · rw [if_pos hv] at h2 ⊢
          refine wantP_mono h2 (fun h3 => ?_) (fun h3 => ih _ _ _ _ h3)
          rw [lookM_eq]
          refine stepP_mono h3 fun v H' W' h4 => ?_
          by_cases hn : bornBefore E.T ops ops.size = []
          · rw [hn] at h4
            rw [if_pos hn]
            exact ih _ _ _ _ h4
          · rw [if_neg hn]
            have : (!(bornBefore E.T ops ops.size).isEmpty) = true := by simpa using hn
            rw [this] at h4
            exact ⟨h4.1, h4.2.1, by rw [look_length]; exact h4.2.2.1, ih _ _ _ _ h4.2.2.2⟩
        · rw [if_neg hv] at h2 ⊢
          refine wantP_mono h2 (fun h3 => ?_) (fun h3 => ih _ _ _ _ h3)
          rw [lookM_eq]
          split at h3
          · rename_i ho
            rw [ho]
            refine ⟨aliveE_all h3.1, ?_⟩
            have h4 := h3.2
            split at h4
            · rename_i ho2
              rw [ho2]
              exact ih _ _ _ _ h4
            · exact h4.elim
          · exact h3.elim
      · rw [if_neg ha] at h2 ⊢
        refine wantP_mono h2 (fun h3 => ?_) (fun h3 => ih _ _ _ _ h3)
        refine stepP_mono h3 fun v H' W' h4 => ?_
        exact ⟨h4.1, by rw [h4.2.1]; simp, ih _ _ _ _ h4.2.2⟩
theorem draw2R_of {ops : Array Oper} {M : Mm} {H : Heap} {K : EX → Mm → Heap → List Nat → Prop} (pl : List DT) (born : List EO) (h1 : planE E.T ops = pl) (h2 : bornCells E.T ops = born) (Wl : List Nat) (h : match toL ops with
    | some l => draw2S E D N ops H born Wl l pl M (H ++ born) [] K
    | none => False) : draw2R E D N ops M H K := by
  refine ⟨Wl, ?_⟩
  subst h1
  rw [h2]
  exact draw2S_ok ops.toList 0 M _ _ h
end
end Go.Ev
end

/- The evaluator E: the simplifier's set; encodings of lists of numbers, texts, truth values, nodes. -/
section
namespace Go.Ev
open Go
set_option linter.unusedSimpArgs false
set_option linter.unusedVariables false

attribute [simp ↓] regP opsC blkV guardF guardOk evO evL evOpt pureR unitR newR putM seqK opsP wantP stepP blockM endM_normal endM_ret drawP quietP aliveE inE roundK thenL thenM splitBlk gated apart
attribute [simp] normL knows argM dstOk ofC lenE resultsE wrt isActive isCallV Oper.looksAt Op.operands Call.operands indexAddrE indexE loadE storeE ldCells fits_nil fits_cons tupE extremeE partsE buildE buildSliceE placesE fillE splice cut cellsOf EV.one mapO still fieldE fieldAddrE partE chunk rep newsE sliceRows convE sliceE hiE loE boundE nilE
@[simp ↓] theorem lk_cons {a t : Nat} {v : EV} {M : Mm} : lk ((a, v) :: M) t = if t = a then some v else lk M t := by
  unfold lk
  rw [List.lookup_cons]
  by_cases h : t = a
  · simp [h]
  · rw [if_neg h]
    have : (t == a) = false := by simpa using h
    rw [this]
@[simp ↓] theorem lk_nil {t : Nat} : lk [] t = none := rfl
@[simp ↓] theorem lk_putM {d t : Nat} {v : EV} {M : Mm} : lk (putM M (some d) v) t = if t = d then some v else lk M t := lk_cons
@[simp ↓] theorem restrM_def {ts : List Nat} {M : Mm} {t : Nat} : restrM ts M t = if t ∈ ts then lk M t else none := rfl
attribute [simp] lookM_nil pass_length look_length
attribute [simp ↓] pass_early pass_late
@[simp] theorem deadAt_cells {H : Heap} {o : Nat} {cs : List EV} (h : H[o]? = some (.cells cs)) : deadAt H o = false := by simp [deadAt, h]
@[simp] theorem deadAt_map {H : Heap} {o : Nat} {cs : List (EV × EV)} (h : H[o]? = some (.map cs)) : deadAt H o = false := by simp [deadAt, h]
@[simp] theorem deadAt_tip {H : Heap} {o m : Nat} (h : H[o]? = some (.tip m)) : deadAt H o = false := by simp [deadAt, h]
/-- What the simplifier is not to look into. -/
class PBox where
  p : Prop
class KBox where
  c : Code
  k : EX → Mm → Heap → List Nat → Prop
@[simp ↓] theorem PBox_p {x : Prop} : (⟨x⟩ : PBox).p = x := rfl
@[simp ↓] theorem KBox_c {c : Code} {k : EX → Mm → Heap → List Nat → Prop} : (⟨c, k⟩ : KBox).c = c := rfl
@[simp ↓] theorem KBox_k {c : Code} {k : EX → Mm → Heap → List Nat → Prop} : (⟨c, k⟩ : KBox).k = k := rfl
/-- Two ways. -/
def condP (t : Bool) [A : PBox] [B : PBox] : Prop := (t = true → A.p) ∧ (¬ t = true → B.p)
@[simp] theorem condP_true {A B : PBox} : @condP true A B = A.p := by simp [condP]
@[simp] theorem condP_false {A B : PBox} : @condP false A B = B.p := by simp [condP]
@[simp low] theorem condP_def {t : Bool} {A B : PBox} : @condP t A B = ((t = true → A.p) ∧ (¬ t = true → B.p)) := rfl
/-- A loop whose code and end are not looked into. -/
def LoopI (E : EP) (D : EP → CallF → DrawF) (vm : Bool) (N : Nat) (M : Mm) (H : Heap) [x : KBox] : Prop := LoopM E D vm N x.c M H x.k
@[simp] theorem toL_list {l : List Oper} : toL l.toArray = some l := rfl
section
variable {E : EP} {D : EP → CallF → DrawF} {vm : Bool} {N : Nat} {M : Mm} {H : Heap} {K : EX → Mm → Heap → List Nat → Prop}
@[simp ↓] theorem codeP_skip : codeP E D vm N .skip M H K = K .normal M H [] := rfl
@[simp ↓] theorem codeP_exit {id} : codeP E D vm N (.exit id) M H K = K (.exit id) M H [] := rfl
@[simp ↓] theorem codeP_ret : codeP E D vm N .ret M H K = K .ret M H [] := rfl
@[simp ↓] theorem codeP_region {id ops} : codeP E D vm N (.region id ops false) M H K = regP E D vm N ops.toList M H K := rfl
@[simp ↓] theorem codeP_draw {id ops} : codeP E D vm N (.region id ops true) M H K = drawP E D N ops M H K := rfl
@[simp ↓] theorem codeP_seq {a b} : codeP E D vm N (.seq a b) M H K = codeP E D vm N a M H (seqK (codeP E D vm N b) K) := rfl
@[simp ↓] theorem codeP_cond {c a b} : codeP E D vm N (.cond c a b) M H K = match evO E.G (lk M) c with
    | some (.bool t) => @condP t ⟨codeP E D vm N a M H K⟩ ⟨codeP E D vm N b M H K⟩
    | _ => False := rfl
@[simp ↓] theorem codeP_block {id c} : codeP E D vm N (.block id c) M H K = codeP E D vm N c M H (blockM id K) := rfl
@[simp ↓] theorem codeP_loop {c} : codeP E D vm N (.loop c) M H K = @LoopI E D vm N M H ⟨c, K⟩ := rfl
@[simp] theorem array_toList {α : Type} {l : List α} : (l.toArray).toList = l := rfl
end
section
variable {E : EP} {D : EP → CallF → DrawF} {N : Nat} {ops : Array Oper} {H0 Hc : Heap} {born : List EO} {Wl W : List Nat} {o : Oper} {rest : List Oper} {pl : List DT} {M : Mm} {K : EX → Mm → Heap → List Nat → Prop}
@[simp ↓] theorem draw2S_nil : draw2S E D N ops H0 born Wl [] [] M Hc W K = (inE Wl W ∧ K .normal M Hc W) := rfl
@[simp ↓] theorem draw2S_b {q : Nat} : draw2S E D N ops H0 born Wl (o :: rest) (.b q :: pl) M Hc W K = (dstOk N o.dst = true ∧ draw2S E D N ops H0 born Wl rest pl (putM M o.dst (.ptr (H0.length + q) 0)) Hc W K) := rfl
@[simp ↓] theorem draw2S_ct {d : List Nat} : draw2S E D N ops H0 born Wl (o :: rest) (.c true d :: pl) M Hc W K = (dstOk N o.dst = true ∧ wantP ops.toList (restrM (o.looksAt ops) M) o
    (stepP E D E.vm (restrM (o.looksAt ops) M) (lookM H0.length d Hc) o.op fun v H' W' => W' = [] ∧ (finishE 0 (lookM H0.length d Hc) H' [] v).2.2 = [] ∧ (finishE 0 (lookM H0.length d Hc) H' [] v).2.1.length = Hc.length ∧ draw2S E D N ops H0 born Wl rest pl (putM M o.dst (finishE 0 (lookM H0.length d Hc) H' [] v).1) Hc W K)
    (draw2S E D N ops H0 born Wl rest pl (putM M o.dst .undef) Hc W K)) := rfl
@[simp ↓] theorem draw2S_cf {d : List Nat} : draw2S E D N ops H0 born Wl (o :: rest) (.c false d :: pl) M Hc W K = (dstOk N o.dst = true ∧ wantP ops.toList (restrM (o.looksAt ops) M) o
    (stepP E D E.vm (restrM (o.looksAt ops) M) (lookM H0.length d Hc) o.op fun v H' W' => draw2S E D N ops H0 born Wl rest pl (putM M o.dst v) H' (W ++ W') K)
    (draw2S E D N ops H0 born Wl rest pl (putM M o.dst .undef) Hc W K)) := rfl
@[simp ↓] theorem draw2S_a {d : List Nat} : draw2S E D N ops H0 born Wl (o :: rest) (.a d :: pl) M Hc W K = (dstOk N o.dst = true ∧ wantP ops.toList (restrM (o.looksAt ops) M) o
    (match opE E (restrM (o.looksAt ops) M) (lookM H0.length d Hc) o.op with
      | some (v, _, W') => aliveE (lookM H0.length d Hc) W' ∧ match opE E (restrM (o.looksAt ops) M) Hc o.op with
        | some (_, H2, _) => draw2S E D N ops H0 born Wl rest pl (putM M o.dst v) H2 (W ++ W') K
        | none => False
      | none => False)
    (draw2S E D N ops H0 born Wl rest pl (putM M o.dst .undef) Hc W K)) := rfl
@[simp ↓] theorem draw2S_p {e : Bool} : draw2S E D N ops H0 born Wl (o :: rest) (.p e :: pl) M Hc W K = (dstOk N o.dst = true ∧ wantP ops.toList (restrM (o.looksAt ops) M) o
    (stepP E D E.vm (restrM (o.looksAt ops) M) (passM H0.length Wl e (H0 ++ born)) o.op fun v H' W' => W' = [] ∧ H'.length = H0.length + born.length ∧ draw2S E D N ops H0 born Wl rest pl (putM M o.dst v) Hc W K)
    (draw2S E D N ops H0 born Wl rest pl (putM M o.dst .undef) Hc W K)) := rfl
end
section
variable {E : EP} {D : EP → CallF → DrawF} {vm : Bool} {l : Look} {H : Heap}
@[simp ↓] theorem stepF_move {x} : stepF E D vm l H (.move x) = pureR H (evO E.G l x) := rfl
@[simp ↓] theorem opE_move {x} : opE E l H (.move x) = pureR H (evO E.G l x) := rfl
@[simp ↓] theorem stepP_move {x} {Q : EV → Heap → List Nat → Prop} : stepP E D vm l H (.move x) Q = match (pureR H (evO E.G l x) : Option (EV × Heap × List Nat)) with | some (v, H1, W1) => Q v H1 W1 | none => False := rfl
@[simp ↓] theorem stepF_assign {x} : stepF E D vm l H (.assign x) = pureR H (evO E.G l x) := rfl
@[simp ↓] theorem opE_assign {x} : opE E l H (.assign x) = pureR H (evO E.G l x) := rfl
@[simp ↓] theorem stepP_assign {x} {Q : EV → Heap → List Nat → Prop} : stepP E D vm l H (.assign x) Q = match (pureR H (evO E.G l x) : Option (EV × Heap × List Nat)) with | some (v, H1, W1) => Q v H1 W1 | none => False := rfl
@[simp ↓] theorem stepF_alloc {e} : stepF E D vm l H (.alloc e) = match E.T e with | some te => if te.zero.all EV.one = true then some (.ptr H.length 0, H ++ [.cells te.zero], []) else none | none => none := rfl
@[simp ↓] theorem opE_alloc {e} : opE E l H (.alloc e) = match E.T e with | some te => if te.zero.all EV.one = true then some (.ptr H.length 0, H ++ [.cells te.zero], []) else none | none => none := rfl
@[simp ↓] theorem stepP_alloc {e} {Q : EV → Heap → List Nat → Prop} : stepP E D vm l H (.alloc e) Q = match (match E.T e with | some te => if te.zero.all EV.one = true then some (.ptr H.length 0, H ++ [.cells te.zero], []) else none | none => none : Option (EV × Heap × List Nat)) with | some (v, H1, W1) => Q v H1 W1 | none => False := rfl
@[simp ↓] theorem stepF_box {t x} : stepF E D vm l H (.box t x) = match evO E.G l x with | some v => if (cellsOf v).all EV.one = true then some (.ptr H.length 0, H ++ [.cells (cellsOf v)], []) else none | none => none := rfl
@[simp ↓] theorem opE_box {t x} : opE E l H (.box t x) = match evO E.G l x with | some v => if (cellsOf v).all EV.one = true then some (.ptr H.length 0, H ++ [.cells (cellsOf v)], []) else none | none => none := rfl
@[simp ↓] theorem stepP_box {t x} {Q : EV → Heap → List Nat → Prop} : stepP E D vm l H (.box t x) Q = match (match evO E.G l x with | some v => if (cellsOf v).all EV.one = true then some (.ptr H.length 0, H ++ [.cells (cellsOf v)], []) else none | none => none : Option (EV × Heap × List Nat)) with | some (v, H1, W1) => Q v H1 W1 | none => False := rfl
@[simp ↓] theorem stepF_build {t ps} : stepF E D vm l H (.build t ps) = match partsE E.G l ps.toList with | some qs => pureR H (buildE E.T t qs) | none => none := rfl
@[simp ↓] theorem opE_build {t ps} : opE E l H (.build t ps) = match partsE E.G l ps.toList with | some qs => pureR H (buildE E.T t qs) | none => none := rfl
@[simp ↓] theorem stepP_build {t ps} {Q : EV → Heap → List Nat → Prop} : stepP E D vm l H (.build t ps) Q = match (match partsE E.G l ps.toList with | some qs => pureR H (buildE E.T t qs) | none => none : Option (EV × Heap × List Nat)) with | some (v, H1, W1) => Q v H1 W1 | none => False := rfl
@[simp ↓] theorem stepF_buildSlice {t n ps} : stepF E D vm l H (.buildSlice t n ps) = match partsE E.G l ps.toList with | some qs => newR (buildSliceE E.T vm H t n qs) | none => none := rfl
@[simp ↓] theorem opE_buildSlice {t n ps} : opE E l H (.buildSlice t n ps) = match partsE E.G l ps.toList with | some qs => newR (buildSliceE E.T E.vm H t n qs) | none => none := rfl
@[simp ↓] theorem stepP_buildSlice {t n ps} {Q : EV → Heap → List Nat → Prop} : stepP E D vm l H (.buildSlice t n ps) Q = match (match partsE E.G l ps.toList with | some qs => newR (buildSliceE E.T vm H t n qs) | none => none : Option (EV × Heap × List Nat)) with | some (v, H1, W1) => Q v H1 W1 | none => False := rfl
@[simp ↓] theorem stepF_load {t a} : stepF E D vm l H (.load t a) = match evO E.G l a with | some p => pureR H (loadE E.T H t p) | none => none := rfl
@[simp ↓] theorem opE_load {t a} : opE E l H (.load t a) = match evO E.G l a with | some p => pureR H (loadE E.T H t p) | none => none := rfl
@[simp ↓] theorem stepP_load {t a} {Q : EV → Heap → List Nat → Prop} : stepP E D vm l H (.load t a) Q = match (match evO E.G l a with | some p => pureR H (loadE E.T H t p) | none => none : Option (EV × Heap × List Nat)) with | some (v, H1, W1) => Q v H1 W1 | none => False := rfl
@[simp ↓] theorem stepF_store {t a x} : stepF E D vm l H (.store t a x) = match evO E.G l a, evO E.G l x with | some p, some v => unitR (storeE E.T H t p v) | _, _ => none := rfl
@[simp ↓] theorem opE_store {t a x} : opE E l H (.store t a x) = match evO E.G l a, evO E.G l x with | some p, some v => unitR (storeE E.T H t p v) | _, _ => none := rfl
@[simp ↓] theorem stepP_store {t a x} {Q : EV → Heap → List Nat → Prop} : stepP E D vm l H (.store t a x) Q = match (match evO E.G l a, evO E.G l x with | some p, some v => unitR (storeE E.T H t p v) | _, _ => none : Option (EV × Heap × List Nat)) with | some (v, H1, W1) => Q v H1 W1 | none => False := rfl
@[simp ↓] theorem stepF_nilCheck {x} : stepF E D vm l H (.nilCheck x) = match evO E.G l x with | some (.ptr o i) => some (.ptr o i, H, []) | some (.fp cs) => some (.fp cs, H, []) | some (.fn f a b) => some (.fn f a b, H, []) | _ => none := rfl
@[simp ↓] theorem opE_nilCheck {x} : opE E l H (.nilCheck x) = match evO E.G l x with | some (.ptr o i) => some (.ptr o i, H, []) | some (.fp cs) => some (.fp cs, H, []) | some (.fn f a b) => some (.fn f a b, H, []) | _ => none := rfl
@[simp ↓] theorem stepP_nilCheck {x} {Q : EV → Heap → List Nat → Prop} : stepP E D vm l H (.nilCheck x) Q = match (match evO E.G l x with | some (.ptr o i) => some (.ptr o i, H, []) | some (.fp cs) => some (.fp cs, H, []) | some (.fn f a b) => some (.fn f a b, H, []) | _ => none : Option (EV × Heap × List Nat)) with | some (v, H1, W1) => Q v H1 W1 | none => False := rfl
@[simp ↓] theorem stepF_binOp {op t x y yt} : stepF E D vm l H (.binOp op t x y yt) = match evO E.G l x, evO E.G l y with | some a, some b => pureR H (match nilC op y with | some r => nilE E.T t r a | none => binE E.T op t a b) | _, _ => none := rfl
@[simp ↓] theorem opE_binOp {op t x y yt} : opE E l H (.binOp op t x y yt) = match evO E.G l x, evO E.G l y with | some a, some b => pureR H (match nilC op y with | some r => nilE E.T t r a | none => binE E.T op t a b) | _, _ => none := rfl
@[simp ↓] theorem stepP_binOp {op t x y yt} {Q : EV → Heap → List Nat → Prop} : stepP E D vm l H (.binOp op t x y yt) Q = match (match evO E.G l x, evO E.G l y with | some a, some b => pureR H (match nilC op y with | some r => nilE E.T t r a | none => binE E.T op t a b) | _, _ => none : Option (EV × Heap × List Nat)) with | some (v, H1, W1) => Q v H1 W1 | none => False := rfl
@[simp ↓] theorem stepF_unOp {op t x} : stepF E D vm l H (.unOp op t x) = match evO E.G l x with | some a => pureR H (unE op a) | none => none := rfl
@[simp ↓] theorem opE_unOp {op t x} : opE E l H (.unOp op t x) = match evO E.G l x with | some a => pureR H (unE op a) | none => none := rfl
@[simp ↓] theorem stepP_unOp {op t x} {Q : EV → Heap → List Nat → Prop} : stepP E D vm l H (.unOp op t x) Q = match (match evO E.G l x with | some a => pureR H (unE op a) | none => none : Option (EV × Heap × List Nat)) with | some (v, H1, W1) => Q v H1 W1 | none => False := rfl
@[simp ↓] theorem stepF_convert {s d x} : stepF E D vm l H (.convert s d x) = match evO E.G l x with | some v => (match convE E.T H s d v with | some r => some (r, H, []) | none => newR (convNew E.T H s d v)) | none => none := rfl
@[simp ↓] theorem opE_convert {s d x} : opE E l H (.convert s d x) = match evO E.G l x with | some v => (match convE E.T H s d v with | some r => some (r, H, []) | none => newR (convNew E.T H s d v)) | none => none := rfl
@[simp ↓] theorem stepP_convert {s d x} {Q : EV → Heap → List Nat → Prop} : stepP E D vm l H (.convert s d x) Q = match (match evO E.G l x with | some v => (match convE E.T H s d v with | some r => some (r, H, []) | none => newR (convNew E.T H s d v)) | none => none : Option (EV × Heap × List Nat)) with | some (v, H1, W1) => Q v H1 W1 | none => False := rfl
@[simp ↓] theorem stepF_makeFunc {f a b} : stepF E D vm l H (.makeFunc (.func f) a b) = match evL E.G l a.toList, evL E.G l b.toList with | some as, some bs => some (.fn f as bs, H, []) | _, _ => none := rfl
@[simp ↓] theorem opE_makeFunc {f a b} : opE E l H (.makeFunc (.func f) a b) = match evL E.G l a.toList, evL E.G l b.toList with | some as, some bs => some (.fn f as bs, H, []) | _, _ => none := rfl
@[simp ↓] theorem stepP_makeFunc {f a b} {Q : EV → Heap → List Nat → Prop} : stepP E D vm l H (.makeFunc (.func f) a b) Q = match (match evL E.G l a.toList, evL E.G l b.toList with | some as, some bs => some (.fn f as bs, H, []) | _, _ => none : Option (EV × Heap × List Nat)) with | some (v, H1, W1) => Q v H1 W1 | none => False := rfl
@[simp ↓] theorem stepF_makeMap {t} : stepF E D vm l H (.makeMap t none) = some (.map H.length, H ++ [.map []], []) := rfl
@[simp ↓] theorem opE_makeMap {t} : opE E l H (.makeMap t none) = some (.map H.length, H ++ [.map []], []) := rfl
@[simp ↓] theorem stepP_makeMap {t} {Q : EV → Heap → List Nat → Prop} : stepP E D vm l H (.makeMap t none) Q = match (some (.map H.length, H ++ [.map []], []) : Option (EV × Heap × List Nat)) with | some (v, H1, W1) => Q v H1 W1 | none => False := rfl
@[simp ↓] theorem stepF_makeSlice {t n c} : stepF E D vm l H (.makeSlice t n c) = match evO E.G l n, evO E.G l c with | some a, some b => newR (makeSliceE E.T H t a b) | _, _ => none := rfl
@[simp ↓] theorem opE_makeSlice {t n c} : opE E l H (.makeSlice t n c) = match evO E.G l n, evO E.G l c with | some a, some b => newR (makeSliceE E.T H t a b) | _, _ => none := rfl
@[simp ↓] theorem stepP_makeSlice {t n c} {Q : EV → Heap → List Nat → Prop} : stepP E D vm l H (.makeSlice t n c) Q = match (match evO E.G l n, evO E.G l c with | some a, some b => newR (makeSliceE E.T H t a b) | _, _ => none : Option (EV × Heap × List Nat)) with | some (v, H1, W1) => Q v H1 W1 | none => False := rfl
@[simp ↓] theorem stepF_slice {t x lo hi mx} : stepF E D vm l H (.slice t x lo hi mx) = match evO E.G l x, evOpt E.G l lo, evOpt E.G l hi, evOpt E.G l mx with | some v, some a, some h, some m => pureR H (sliceE E.T t v a h m) | _, _, _, _ => none := rfl
@[simp ↓] theorem opE_slice {t x lo hi mx} : opE E l H (.slice t x lo hi mx) = match evO E.G l x, evOpt E.G l lo, evOpt E.G l hi, evOpt E.G l mx with | some v, some a, some h, some m => pureR H (sliceE E.T t v a h m) | _, _, _, _ => none := rfl
@[simp ↓] theorem stepP_slice {t x lo hi mx} {Q : EV → Heap → List Nat → Prop} : stepP E D vm l H (.slice t x lo hi mx) Q = match (match evO E.G l x, evOpt E.G l lo, evOpt E.G l hi, evOpt E.G l mx with | some v, some a, some h, some m => pureR H (sliceE E.T t v a h m) | _, _, _, _ => none : Option (EV × Heap × List Nat)) with | some (v, H1, W1) => Q v H1 W1 | none => False := rfl
@[simp ↓] theorem stepF_fieldAddr {s x f} : stepF E D vm l H (.fieldAddr s x f) = match evO E.G l x with | some v => pureR H (fieldAddrE E.T s v f) | none => none := rfl
@[simp ↓] theorem opE_fieldAddr {s x f} : opE E l H (.fieldAddr s x f) = match evO E.G l x with | some v => pureR H (fieldAddrE E.T s v f) | none => none := rfl
@[simp ↓] theorem stepP_fieldAddr {s x f} {Q : EV → Heap → List Nat → Prop} : stepP E D vm l H (.fieldAddr s x f) Q = match (match evO E.G l x with | some v => pureR H (fieldAddrE E.T s v f) | none => none : Option (EV × Heap × List Nat)) with | some (v, H1, W1) => Q v H1 W1 | none => False := rfl
@[simp ↓] theorem stepF_field {s x f} : stepF E D vm l H (.field s x f) = match evO E.G l x with | some v => pureR H (fieldE E.T s v f) | none => none := rfl
@[simp ↓] theorem opE_field {s x f} : opE E l H (.field s x f) = match evO E.G l x with | some v => pureR H (fieldE E.T s v f) | none => none := rfl
@[simp ↓] theorem stepP_field {s x f} {Q : EV → Heap → List Nat → Prop} : stepP E D vm l H (.field s x f) Q = match (match evO E.G l x with | some v => pureR H (fieldE E.T s v f) | none => none : Option (EV × Heap × List Nat)) with | some (v, H1, W1) => Q v H1 W1 | none => False := rfl
@[simp ↓] theorem stepF_indexAddr {t x i} : stepF E D vm l H (.indexAddr t x i) = match evO E.G l x, evO E.G l i with | some v, some j => pureR H (indexAddrE E.T t v j) | _, _ => none := rfl
@[simp ↓] theorem opE_indexAddr {t x i} : opE E l H (.indexAddr t x i) = match evO E.G l x, evO E.G l i with | some v, some j => pureR H (indexAddrE E.T t v j) | _, _ => none := rfl
@[simp ↓] theorem stepP_indexAddr {t x i} {Q : EV → Heap → List Nat → Prop} : stepP E D vm l H (.indexAddr t x i) Q = match (match evO E.G l x, evO E.G l i with | some v, some j => pureR H (indexAddrE E.T t v j) | _, _ => none : Option (EV × Heap × List Nat)) with | some (v, H1, W1) => Q v H1 W1 | none => False := rfl
@[simp ↓] theorem stepF_index {t x i} : stepF E D vm l H (.index t x i) = match evO E.G l x, evO E.G l i with | some v, some j => pureR H (indexE E.T t v j) | _, _ => none := rfl
@[simp ↓] theorem opE_index {t x i} : opE E l H (.index t x i) = match evO E.G l x, evO E.G l i with | some v, some j => pureR H (indexE E.T t v j) | _, _ => none := rfl
@[simp ↓] theorem stepP_index {t x i} {Q : EV → Heap → List Nat → Prop} : stepP E D vm l H (.index t x i) Q = match (match evO E.G l x, evO E.G l i with | some v, some j => pureR H (indexE E.T t v j) | _, _ => none : Option (EV × Heap × List Nat)) with | some (v, H1, W1) => Q v H1 W1 | none => False := rfl
@[simp ↓] theorem stepF_lookup {t m k ok} : stepF E D vm l H (.lookup t m k ok) = match evO E.G l m, evO E.G l k with | some a, some b => pureR H (lookupE E.T H t a b ok) | _, _ => none := rfl
@[simp ↓] theorem opE_lookup {t m k ok} : opE E l H (.lookup t m k ok) = match evO E.G l m, evO E.G l k with | some a, some b => pureR H (lookupE E.T H t a b ok) | _, _ => none := rfl
@[simp ↓] theorem stepP_lookup {t m k ok} {Q : EV → Heap → List Nat → Prop} : stepP E D vm l H (.lookup t m k ok) Q = match (match evO E.G l m, evO E.G l k with | some a, some b => pureR H (lookupE E.T H t a b ok) | _, _ => none : Option (EV × Heap × List Nat)) with | some (v, H1, W1) => Q v H1 W1 | none => False := rfl
@[simp ↓] theorem stepF_mapUpdate {t m k x} : stepF E D vm l H (.mapUpdate t m k x) = match evO E.G l m, evO E.G l k, evO E.G l x with | some a, some b, some v => unitR (updateE E.T H t a b v) | _, _, _ => none := rfl
@[simp ↓] theorem opE_mapUpdate {t m k x} : opE E l H (.mapUpdate t m k x) = match evO E.G l m, evO E.G l k, evO E.G l x with | some a, some b, some v => unitR (updateE E.T H t a b v) | _, _, _ => none := rfl
@[simp ↓] theorem stepP_mapUpdate {t m k x} {Q : EV → Heap → List Nat → Prop} : stepP E D vm l H (.mapUpdate t m k x) Q = match (match evO E.G l m, evO E.G l k, evO E.G l x with | some a, some b, some v => unitR (updateE E.T H t a b v) | _, _, _ => none : Option (EV × Heap × List Nat)) with | some (v, H1, W1) => Q v H1 W1 | none => False := rfl
@[simp ↓] theorem stepF_insert {t m k x} : stepF E D vm l H (.insert t m k x) = match evO E.G l m, evO E.G l k, evO E.G l x with | some a, some b, some v => unitR (updateE E.T H t a b v) | _, _, _ => none := rfl
@[simp ↓] theorem opE_insert {t m k x} : opE E l H (.insert t m k x) = match evO E.G l m, evO E.G l k, evO E.G l x with | some a, some b, some v => unitR (updateE E.T H t a b v) | _, _, _ => none := rfl
@[simp ↓] theorem stepP_insert {t m k x} {Q : EV → Heap → List Nat → Prop} : stepP E D vm l H (.insert t m k x) Q = match (match evO E.G l m, evO E.G l k, evO E.G l x with | some a, some b, some v => unitR (updateE E.T H t a b v) | _, _, _ => none : Option (EV × Heap × List Nat)) with | some (v, H1, W1) => Q v H1 W1 | none => False := rfl
@[simp ↓] theorem stepF_extract {x i} : stepF E D vm l H (.extract x i) = match evO E.G l x with | some (.tup vs) => pureR H vs[i]? | _ => none := rfl
@[simp ↓] theorem opE_extract {x i} : opE E l H (.extract x i) = match evO E.G l x with | some (.tup vs) => pureR H vs[i]? | _ => none := rfl
@[simp ↓] theorem stepP_extract {x i} {Q : EV → Heap → List Nat → Prop} : stepP E D vm l H (.extract x i) Q = match (match evO E.G l x with | some (.tup vs) => pureR H vs[i]? | _ => none : Option (EV × Heap × List Nat)) with | some (v, H1, W1) => Q v H1 W1 | none => False := rfl
@[simp ↓] theorem stepF_builtin {b as ts} : stepF E D vm l H (.call { callee := .builtin b, args := as, argTypes := ts }) = match evL E.G l as.toList with | some vs => builtinE E.T vm H b ts vs | none => none := rfl
@[simp ↓] theorem opE_builtin {b as ts} : opE E l H (.call { callee := .builtin b, args := as, argTypes := ts }) = match evL E.G l as.toList with | some vs => builtinE E.T E.vm H b ts vs | none => none := rfl
@[simp ↓] theorem stepP_builtin {b as ts} {Q : EV → Heap → List Nat → Prop} : stepP E D vm l H (.call { callee := .builtin b, args := as, argTypes := ts }) Q = match (match evL E.G l as.toList with | some vs => builtinE E.T vm H b ts vs | none => none : Option (EV × Heap × List Nat)) with | some (v, H1, W1) => Q v H1 W1 | none => False := rfl
@[simp ↓] theorem stepF_call {f as ts} : stepF E D vm l H (.call { callee := .value f, args := as, argTypes := ts }) = match evO E.G l f, evL E.G l as.toList with | some (.fn g a b), some vs => (match some (a ++ vs ++ b) with | some args => CallV E D g args H | none => none) | _, _ => none := rfl
@[simp ↓] theorem stepP_call {f as ts} {Q : EV → Heap → List Nat → Prop} : stepP E D vm l H (.call { callee := .value f, args := as, argTypes := ts }) Q = match evO E.G l f, evL E.G l as.toList with | some (.fn g a b), some vs => (match some (a ++ vs ++ b) with | some args => (match CallV E D g args H with | some (v, H1, W1) => Q v H1 W1 | none => False) | none => False) | _, _ => False := rfl
/-- What is picked. -/
def pickV (H : Heap) : Option EV → Option EV → Option EV → Option (EV × Heap × List Nat)
  | some (.bool c), some (.bool x), some (.bool y) => some (.bool (if c = true then x else y), H, [])
  | some (.bool c), some x, some y => if c = true then some (x, H, []) else some (y, H, [])
  | _, _, _ => none
@[simp ↓] theorem stepF_pick {c a b} : stepF E D vm l H (.pick c a b) = pickV H (evO E.G l c) (evO E.G l a) (evO E.G l b) := by
  unfold pickV
  rfl
@[simp] theorem pickV_bool {c x y : Bool} : pickV H (some (.bool c)) (some (.bool x)) (some (.bool y)) = some (.bool (if c = true then x else y), H, []) := rfl
@[simp] theorem pickV_true {x y : EV} : pickV H (some (.bool true)) (some x) (some y) = some (x, H, []) := by
  unfold pickV
  split <;> simp_all
@[simp] theorem pickV_false {x y : EV} : pickV H (some (.bool false)) (some x) (some y) = some (y, H, []) := by
  unfold pickV
  split <;> simp_all
end
section
variable {T : TT} {H : Heap} {vm : Bool} {ts : Array TypeId}
@[simp] theorem builtin_len {x : EV} : builtinE T vm H .len ts [x] = match ts[0]? with | some t => (match lenE T H t x with | some n => some (.int .i64 n, H, []) | none => none) | none => none := rfl
@[simp] theorem builtin_append {s x : EV} : builtinE T vm H .append ts [s, x] = match ts[0]?, ts[1]? with | some st, some xt => appendE T vm H st xt s x | _, _ => none := rfl
@[simp] theorem builtin_min {x : EV} {r : List EV} : builtinE T vm H .min ts (x :: r) = pureR H (extremeE false x r) := by cases r <;> rfl
@[simp] theorem builtin_max {x : EV} {r : List EV} : builtinE T vm H .max ts (x :: r) = pureR H (extremeE true x r) := by cases r <;> rfl
end
section
variable {op : BinOp} {t : Nat} {T : TT} {k : IntKind} {a b : Int} {s u : List UInt8} {p q : Bool}
@[simp] theorem nilC_tmp : nilC op (.tmp t) = none := by cases op <;> rfl
@[simp] theorem nilC_int : nilC op (.const (.int k a)) = none := by cases op <;> rfl
@[simp] theorem nilC_bool : nilC op (.const (.bool p)) = none := by cases op <;> rfl
@[simp] theorem nilC_str {z : ByteArray} : nilC op (.const (.string z)) = none := by cases op <;> rfl
@[simp] theorem nilC_func : nilC op (.const .nilFunc) = none := by cases op <;> rfl
@[simp] theorem nilC_map : nilC op (.const (.map none)) = none := by cases op <;> rfl
@[simp] theorem nilC_ptr : nilC op (.const (.pointer none)) = none := by cases op <;> rfl
@[simp] theorem nilC_eql : nilC .eql (.const (.slice none 0 0)) = some false := rfl
@[simp] theorem nilC_neq : nilC .neq (.const (.slice none 0 0)) = some true := rfl
@[simp] theorem binE_add : binE T .add t (.int k a) (.int k b) = some (.int k (k.wrap (a + b))) := by simp only [binE, if_true]
@[simp] theorem binE_sub : binE T .sub t (.int k a) (.int k b) = some (.int k (k.wrap (a - b))) := by simp only [binE, if_true]
@[simp] theorem binE_mul : binE T .mul t (.int k a) (.int k b) = some (.int k (k.wrap (a * b))) := by simp only [binE, if_true]
@[simp] theorem binE_quo : binE T .quo t (.int k a) (.int k b) = if b = 0 then none else some (.int k (k.wrap (a.tdiv b))) := by simp only [binE, if_true]
@[simp] theorem binE_rem : binE T .rem t (.int k a) (.int k b) = if b = 0 then none else some (.int k (a.tmod b)) := by simp only [binE, if_true]
@[simp] theorem binE_eql : binE T .eql t (.int k a) (.int k b) = some (.bool (a == b)) := by simp only [binE, if_true]
@[simp] theorem binE_neq : binE T .neq t (.int k a) (.int k b) = some (.bool (a != b)) := by simp only [binE, if_true]
@[simp] theorem binE_lss : binE T .lss t (.int k a) (.int k b) = some (.bool (decide (a < b))) := by simp only [binE, if_true]
@[simp] theorem binE_leq : binE T .leq t (.int k a) (.int k b) = some (.bool (decide (a ≤ b))) := by simp only [binE, if_true]
@[simp] theorem binE_gtr : binE T .gtr t (.int k a) (.int k b) = some (.bool (decide (a > b))) := by simp only [binE, if_true]
@[simp] theorem binE_geq : binE T .geq t (.int k a) (.int k b) = some (.bool (decide (a ≥ b))) := by simp only [binE, if_true]
@[simp] theorem binE_str_eql : binE T .eql t (.str s) (.str u) = some (.bool (s == u)) := rfl
@[simp] theorem binE_str_neq : binE T .neq t (.str s) (.str u) = some (.bool (!(s == u))) := rfl
@[simp] theorem binE_str_lss : binE T .lss t (.str s) (.str u) = some (.bool (Op.bytesLess s u)) := rfl
@[simp] theorem binE_str_leq : binE T .leq t (.str s) (.str u) = some (.bool (Op.bytesLess s u || s == u)) := rfl
@[simp] theorem binE_str_gtr : binE T .gtr t (.str s) (.str u) = some (.bool (!(Op.bytesLess s u || s == u))) := rfl
@[simp] theorem binE_str_geq : binE T .geq t (.str s) (.str u) = some (.bool (!Op.bytesLess s u)) := rfl
@[simp] theorem binE_str_add : binE T .add t (.str s) (.str u) = if s.length + u.length ≤ 9223372036854775807 then some (.str (s ++ u)) else none := rfl
@[simp] theorem binE_shl {k' : IntKind} : binE T .shl t (.int k a) (.int k' b) = if 0 ≤ b then some (.int k (k.wrap (a * 2 ^ min b.toNat k.bits))) else none := rfl
@[simp] theorem binE_shr {k' : IntKind} : binE T .shr t (.int k a) (.int k' b) = if 0 ≤ b then some (.int k (a.fdiv (2 ^ min b.toNat k.bits))) else none := rfl
@[simp] theorem unE_not : unE .not (.bool p) = some (.bool !p) := rfl
@[simp] theorem unE_neg : unE .neg (.int k a) = some (.int k (k.wrap (0 - a))) := rfl
@[simp] theorem pickOf_pick {d u : Nat} {want : Bool} {g : Option (Nat × Bool)} {c a b : Operand} : pickOf d want ⟨g, some u, .pick c a b⟩ = match c with
    | .tmp c => if c = d then match want, a, b with
        | true, x, .const (.bool false) => some (u, x)
        | false, .const (.bool true), x => some (u, x)
        | _, _, _ => none
      else none
    | _ => none := by cases c <;> rfl
@[simp] theorem pickOf_move {d : Nat} {want : Bool} {g : Option (Nat × Bool)} {u : Option Nat} {x} : pickOf d want ⟨g, u, .move x⟩ = none := by cases u <;> rfl
@[simp] theorem pickOf_assign {d : Nat} {want : Bool} {g : Option (Nat × Bool)} {u : Option Nat} {x} : pickOf d want ⟨g, u, .assign x⟩ = none := by cases u <;> rfl
@[simp] theorem pickOf_alloc {d : Nat} {want : Bool} {g : Option (Nat × Bool)} {u : Option Nat} {e} : pickOf d want ⟨g, u, .alloc e⟩ = none := by cases u <;> rfl
@[simp] theorem pickOf_box {d : Nat} {want : Bool} {g : Option (Nat × Bool)} {u : Option Nat} {t x} : pickOf d want ⟨g, u, .box t x⟩ = none := by cases u <;> rfl
@[simp] theorem pickOf_build {d : Nat} {want : Bool} {g : Option (Nat × Bool)} {u : Option Nat} {t ps} : pickOf d want ⟨g, u, .build t ps⟩ = none := by cases u <;> rfl
@[simp] theorem pickOf_buildSlice {d : Nat} {want : Bool} {g : Option (Nat × Bool)} {u : Option Nat} {t n ps} : pickOf d want ⟨g, u, .buildSlice t n ps⟩ = none := by cases u <;> rfl
@[simp] theorem pickOf_load {d : Nat} {want : Bool} {g : Option (Nat × Bool)} {u : Option Nat} {t a} : pickOf d want ⟨g, u, .load t a⟩ = none := by cases u <;> rfl
@[simp] theorem pickOf_store {d : Nat} {want : Bool} {g : Option (Nat × Bool)} {u : Option Nat} {t a x} : pickOf d want ⟨g, u, .store t a x⟩ = none := by cases u <;> rfl
@[simp] theorem pickOf_nilCheck {d : Nat} {want : Bool} {g : Option (Nat × Bool)} {u : Option Nat} {x} : pickOf d want ⟨g, u, .nilCheck x⟩ = none := by cases u <;> rfl
@[simp] theorem pickOf_binOp {d : Nat} {want : Bool} {g : Option (Nat × Bool)} {u : Option Nat} {op t x y yt} : pickOf d want ⟨g, u, .binOp op t x y yt⟩ = none := by cases u <;> rfl
@[simp] theorem pickOf_unOp {d : Nat} {want : Bool} {g : Option (Nat × Bool)} {u : Option Nat} {op t x} : pickOf d want ⟨g, u, .unOp op t x⟩ = none := by cases u <;> rfl
@[simp] theorem pickOf_convert {d : Nat} {want : Bool} {g : Option (Nat × Bool)} {u : Option Nat} {s d x} : pickOf d want ⟨g, u, .convert s d x⟩ = none := by cases u <;> rfl
@[simp] theorem pickOf_makeFunc {d : Nat} {want : Bool} {g : Option (Nat × Bool)} {u : Option Nat} {f a b} : pickOf d want ⟨g, u, .makeFunc (.func f) a b⟩ = none := by cases u <;> rfl
@[simp] theorem pickOf_makeMap {d : Nat} {want : Bool} {g : Option (Nat × Bool)} {u : Option Nat} {t} : pickOf d want ⟨g, u, .makeMap t none⟩ = none := by cases u <;> rfl
@[simp] theorem pickOf_makeSlice {d : Nat} {want : Bool} {g : Option (Nat × Bool)} {u : Option Nat} {t n c} : pickOf d want ⟨g, u, .makeSlice t n c⟩ = none := by cases u <;> rfl
@[simp] theorem pickOf_slice {d : Nat} {want : Bool} {g : Option (Nat × Bool)} {u : Option Nat} {t x lo hi mx} : pickOf d want ⟨g, u, .slice t x lo hi mx⟩ = none := by cases u <;> rfl
@[simp] theorem pickOf_fieldAddr {d : Nat} {want : Bool} {g : Option (Nat × Bool)} {u : Option Nat} {s x f} : pickOf d want ⟨g, u, .fieldAddr s x f⟩ = none := by cases u <;> rfl
@[simp] theorem pickOf_field {d : Nat} {want : Bool} {g : Option (Nat × Bool)} {u : Option Nat} {s x f} : pickOf d want ⟨g, u, .field s x f⟩ = none := by cases u <;> rfl
@[simp] theorem pickOf_indexAddr {d : Nat} {want : Bool} {g : Option (Nat × Bool)} {u : Option Nat} {t x i} : pickOf d want ⟨g, u, .indexAddr t x i⟩ = none := by cases u <;> rfl
@[simp] theorem pickOf_index {d : Nat} {want : Bool} {g : Option (Nat × Bool)} {u : Option Nat} {t x i} : pickOf d want ⟨g, u, .index t x i⟩ = none := by cases u <;> rfl
@[simp] theorem pickOf_lookup {d : Nat} {want : Bool} {g : Option (Nat × Bool)} {u : Option Nat} {t m k ok} : pickOf d want ⟨g, u, .lookup t m k ok⟩ = none := by cases u <;> rfl
@[simp] theorem pickOf_mapUpdate {d : Nat} {want : Bool} {g : Option (Nat × Bool)} {u : Option Nat} {t m k x} : pickOf d want ⟨g, u, .mapUpdate t m k x⟩ = none := by cases u <;> rfl
@[simp] theorem pickOf_insert {d : Nat} {want : Bool} {g : Option (Nat × Bool)} {u : Option Nat} {t m k x} : pickOf d want ⟨g, u, .insert t m k x⟩ = none := by cases u <;> rfl
@[simp] theorem pickOf_extract {d : Nat} {want : Bool} {g : Option (Nat × Bool)} {u : Option Nat} {x i} : pickOf d want ⟨g, u, .extract x i⟩ = none := by cases u <;> rfl
@[simp] theorem pickOf_call {d : Nat} {want : Bool} {g : Option (Nat × Bool)} {u : Option Nat} {c} : pickOf d want ⟨g, u, .call c⟩ = none := by cases u <;> rfl
end
@[simp] theorem ite_some {α : Type} {c : Prop} [Decidable c] {a b : α} : (if c then some a else some b) = some (if c then a else b) := by split <;> rfl
theorem LoopI.inv {σ : Type} (Ms : σ → Mm) (Hs : σ → Heap) (I : σ → List Nat → Prop) (r : σ → Nat) (s0 : σ) {E : EP} {vm : Bool} {N : Nat} {c : Code} {M : Mm} {H : Heap} {K : EX → Mm → Heap → List Nat → Prop} (h0 : I s0 [] ∧ H = Hs s0 ∧ Fits (Ms s0) M)
    (h : ∀ s W, I s W → codeP E dQ vm N c (Ms s) (Hs s) (roundK Ms Hs I r K s W)) : @LoopI E dQ vm N M H ⟨c, K⟩ := LoopM.inv Ms Hs I r s0 h0 h

abbrev Str := List UInt8
def ints (l : List Int) : List (List EV) := l.map fun n => [.int .i64 n]
def strs (l : List Str) : List (List EV) := l.map fun s => [.str s]
def bools (l : List Bool) : List (List EV) := l.map fun b => [.bool b]
def vals (l : List EV) : List (List EV) := l.map fun v => [v]
/-- A graph's node. -/
structure GN where
  kind : Int
  num : Int
  name : Str
  keys : List Str
  l : List Int
  deriving DecidableEq, Inhabited
def GN.enc (n : GN) : List EV := [.int .i64 n.kind, .int .i64 n.num, .str n.name, .fz (strs n.keys) .no, .fz (ints n.l) .no]
def nodes (g : List GN) : List (List EV) := g.map GN.enc

section
variable {l m : List Int} {s t : List Str} {b c : List Bool} {g h : List GN}
@[simp] theorem ints_length : (ints l).length = l.length := by simp [ints]
@[simp] theorem strs_length : (strs s).length = s.length := by simp [strs]
@[simp] theorem bools_length : (bools b).length = b.length := by simp [bools]
@[simp] theorem nodes_length : (nodes g).length = g.length := by simp [nodes]
@[simp] theorem ints_get (i : Nat) : (ints l)[i]? = (l[i]?).map fun n => [.int .i64 n] := by simp [ints]
@[simp] theorem strs_get (i : Nat) : (strs s)[i]? = (s[i]?).map fun n => [.str n] := by simp [strs]
@[simp] theorem bools_get (i : Nat) : (bools b)[i]? = (b[i]?).map fun n => [.bool n] := by simp [bools]
@[simp] theorem nodes_get (i : Nat) : (nodes g)[i]? = (g[i]?).map GN.enc := by simp [nodes]
@[simp] theorem ints_at (i : Nat) (hi : i < (ints l).length) : (ints l)[i] = [.int .i64 (l[i]'(by simpa using hi))] := by simp [ints]
@[simp] theorem strs_at (i : Nat) (hi : i < (strs s).length) : (strs s)[i] = [.str (s[i]'(by simpa using hi))] := by simp [strs]
@[simp] theorem bools_at (i : Nat) (hi : i < (bools b).length) : (bools b)[i] = [.bool (b[i]'(by simpa using hi))] := by simp [bools]
@[simp] theorem nodes_at (i : Nat) (hi : i < (nodes g).length) : (nodes g)[i] = (g[i]'(by simpa using hi)).enc := by simp [nodes]
@[simp] theorem vals_length {v : List EV} : (vals v).length = v.length := by simp [vals]
@[simp] theorem vals_get {v : List EV} (i : Nat) : (vals v)[i]? = (v[i]?).map fun x => [x] := by simp [vals]
@[simp] theorem vals_at {v : List EV} (i : Nat) (hi : i < (vals v).length) : (vals v)[i] = [v[i]'(by simpa using hi)] := by simp [vals]
theorem vals_cons {v : List EV} (x : EV) : [x] :: vals v = vals (x :: v) := rfl
@[simp] theorem take_drop_one {α : Type} {l : List α} {i : Nat} (h : i < l.length) : (l.drop i).take 1 = [l[i]] := by
  rw [List.drop_eq_getElem_cons h]
  rfl
@[simp] theorem take_rest {α : Type} {l : List α} {n : Nat} : (l.drop n).take (l.length - n) = l.drop n := List.take_of_length_le (by simp)
@[simp] theorem enc_eq (n : GN) : n.enc = [.int .i64 n.kind, .int .i64 n.num, .str n.name, .fz (strs n.keys) .no, .fz (ints n.l) .no] := rfl
@[simp] theorem ints_nil : ints [] = [] := rfl
@[simp] theorem strs_nil : strs [] = [] := rfl
@[simp] theorem bools_nil : bools [] = [] := rfl
@[simp] theorem nodes_nil : nodes [] = [] := rfl
@[simp] theorem ints_take (n : Nat) : (ints l).take n = ints (l.take n) := by simp [ints]
@[simp] theorem ints_drop (n : Nat) : (ints l).drop n = ints (l.drop n) := by simp [ints]
@[simp] theorem strs_take (n : Nat) : (strs s).take n = strs (s.take n) := by simp [strs]
@[simp] theorem strs_drop (n : Nat) : (strs s).drop n = strs (s.drop n) := by simp [strs]
@[simp] theorem nodes_take (n : Nat) : (nodes g).take n = nodes (g.take n) := by simp [nodes]
@[simp] theorem nodes_drop (n : Nat) : (nodes g).drop n = nodes (g.drop n) := by simp [nodes]
@[simp] theorem ints_app : ints l ++ ints m = ints (l ++ m) := by simp [ints]
@[simp] theorem strs_app : strs s ++ strs t = strs (s ++ t) := by simp [strs]
@[simp] theorem nodes_app : nodes g ++ nodes h = nodes (g ++ h) := by simp [nodes]
@[simp] theorem bools_app : bools b ++ bools c = bools (b ++ c) := by simp [bools]
@[simp] theorem ints_push (x : Int) : ints l ++ [[.int .i64 x]] = ints (l ++ [x]) := by simp [ints]
@[simp] theorem strs_push (x : Str) : strs s ++ [[.str x]] = strs (s ++ [x]) := by simp [strs]
@[simp] theorem bools_push (x : Bool) : bools b ++ [[.bool x]] = bools (b ++ [x]) := by simp [bools]
@[simp] theorem nodes_push (k n : Int) (x : Str) (ks : List Str) (y : List Int) : nodes g ++ [[.int .i64 k, .int .i64 n, .str x, .fz (strs ks) .no, .fz (ints y) .no]] = nodes (g ++ [⟨k, n, x, ks, y⟩]) := by simp [nodes]
theorem ints_one (x : Int) : [[EV.int .i64 x]] = ints [x] := rfl
theorem ints_cons (x : Int) : [EV.int .i64 x] :: ints l = ints (x :: l) := rfl
theorem strs_one (x : Str) : [[EV.str x]] = strs [x] := rfl
theorem strs_cons (x : Str) : [EV.str x] :: strs s = strs (x :: s) := rfl
theorem nodes_one (k n : Int) (x : Str) (ks : List Str) (y : List Int) : [[EV.int .i64 k, .int .i64 n, .str x, .fz (strs ks) .no, .fz (ints y) .no]] = nodes [⟨k, n, x, ks, y⟩] := rfl
theorem nodes_cons (k n : Int) (x : Str) (ks : List Str) (y : List Int) : [EV.int .i64 k, .int .i64 n, .str x, .fz (strs ks) .no, .fz (ints y) .no] :: nodes g = nodes (⟨k, n, x, ks, y⟩ :: g) := rfl
theorem rows_const {α : Type} {f : α → List EV} {z : Nat} {l : List α} (hf : ∀ x, (f x).length = z) : rowsOk z (l.map f) = true := by
  cases l with
  | nil => rfl
  | cons a l => simp [rowsOk, hf]
@[simp] theorem ints_rows : rowsOk 1 (ints l) = true := by unfold ints; refine rows_const (fun x => ?_); rfl
@[simp] theorem strs_rows : rowsOk 1 (strs s) = true := by unfold strs; refine rows_const (fun x => ?_); rfl
@[simp] theorem bools_rows : rowsOk 1 (bools b) = true := by unfold bools; refine rows_const (fun x => ?_); rfl
@[simp] theorem nodes_rows : rowsOk 5 (nodes g) = true := by unfold nodes; refine rows_const (fun x => ?_); rfl
@[simp] theorem nil_rows (z : Nat) : rowsOk z [] = true := rfl
theorem still_rows {α : Type} {f : α → List EV} (hf : ∀ x, mapO still (f x) = some (f x)) : ∀ l : List α, mapO (mapO still) (l.map f) = some (l.map f)
  | [] => rfl
  | a :: l => by simp only [List.map_cons, mapO, hf, still_rows hf l]
@[simp] theorem ints_still : mapO (mapO still) (ints l) = some (ints l) := still_rows (fun _ => rfl) l
@[simp] theorem strs_still : mapO (mapO still) (strs s) = some (strs s) := still_rows (fun _ => rfl) s
@[simp] theorem bools_still : mapO (mapO still) (bools b) = some (bools b) := still_rows (fun _ => rfl) b
@[simp] theorem nodes_still : mapO (mapO still) (nodes g) = some (nodes g) := still_rows (fun _ => rfl) g
theorem one_rows {α : Type} {f : α → List EV} (hf : ∀ x, (f x).all EV.one = true) (l : List α) : (l.map f).flatten.all EV.one = true := by
  induction l with
  | nil => rfl
  | cons a l ih => simp only [List.map_cons, List.flatten_cons, List.all_append, hf, ih, Bool.and_self]
theorem ints_ones : (ints l).flatten.all EV.one = true := one_rows (fun _ => rfl) l
theorem strs_ones : (strs s).flatten.all EV.one = true := one_rows (fun _ => rfl) s
theorem nodes_ones : (nodes g).flatten.all EV.one = true := one_rows (fun _ => rfl) g
end

theorem wrap64 {n : Int} (h1 : -9223372036854775808 ≤ n) (h2 : n < 9223372036854775808) : IntKind.i64.wrap n = n := by
  simp [IntKind.wrap, IntKind.bits, IntKind.signed]
  omega
theorem wrap_succ {i : Nat} (h : i < 2 ^ 62) : IntKind.i64.wrap ((i : Int) + 1) = (i : Int) + 1 := wrap64 (by omega) (by omega)

/-- What is handed back, the heap left as it was. -/
theorem finish0 {H H1 : Heap} {W : List Nat} {v : EV} (hW : W.filter (· < H.length) = []) : finishE 0 H H1 W v = match frzT H1 H.length freezeDepth v with
    | some v' => (v', H, [])
    | none => (v, H1, []) := by
  simp only [finishE, hW]
  cases frzT H1 H.length freezeDepth v <;> rfl
theorem far {H : Heap} {W : List Nat} (h : ∀ o ∈ W, H.length ≤ o) : W.filter (· < H.length) = [] := by
  rw [List.filter_eq_nil_iff]
  intro o ho
  have := h o ho
  simp; omega
@[simp] theorem finish0_nil {H H1 : Heap} {v : EV} : finishE 0 H H1 [] v = match frzT H1 H.length freezeDepth v with
    | some v' => (v', H, [])
    | none => (v, H1, []) := finish0 rfl
section
variable {H : Heap} {base : Nat} {ban : Option Nat} {d : Nat}
@[simp] theorem frzT_int {k : IntKind} {n : Int} : frzT H base freezeDepth (.int k n) = some (.int k n) := rfl
@[simp] theorem frzT_bool {b : Bool} : frzT H base freezeDepth (.bool b) = some (.bool b) := rfl
@[simp] theorem frzT_str {s : Str} : frzT H base freezeDepth (.str s) = some (.str s) := rfl
@[simp] theorem frzT_undef : frzT H base freezeDepth .undef = some .undef := rfl
@[simp] theorem frzT_nilp : frzT H base freezeDepth .nilp = some .nilp := rfl
@[simp] theorem frzT_no {es : List (List EV)} : frzT H base freezeDepth (.fz es .no) = some (.fz es .no) := rfl
@[simp] theorem frzT_tight {es : List (List EV)} : frzT H base freezeDepth (.fz es .tight) = some (.fz es .no) := rfl
@[simp] theorem frzT_tok {es : List (List EV)} {o : Nat} (h : base ≤ o) : frzT H base freezeDepth (.fz es (.tok o)) = some (.fz es .no) := by
  simp only [frzT, frzV, frzA, if_neg (show ¬ o < base by omega)]
@[simp] theorem frzT_ptr {o i : Nat} (h : o < base) : frzT H base freezeDepth (.ptr o i) = some (.ptr o i) := by
  simp only [frzT, frzV, frzA, if_pos h]
@[simp] theorem frzT_tup {vs : List EV} : frzT H base freezeDepth (.tup vs) = match mapO (frzV H base none freezeDepth) vs with
    | some vs' => some (.tup vs')
    | none => none := rfl
@[simp] theorem frzT_agg {vs : List EV} : frzT H base freezeDepth (.agg vs) = match mapO (frzA H base none freezeDepth) vs with
    | some vs' => some (.agg vs')
    | none => none := rfl
@[simp] theorem frzV_int {k : IntKind} {n : Int} : frzV H base ban freezeDepth (.int k n) = some (.int k n) := rfl
@[simp] theorem frzV_bool {b : Bool} : frzV H base ban freezeDepth (.bool b) = some (.bool b) := rfl
@[simp] theorem frzV_str {s : Str} : frzV H base ban freezeDepth (.str s) = some (.str s) := rfl
@[simp] theorem frzV_undef : frzV H base ban freezeDepth .undef = some .undef := rfl
@[simp] theorem frzV_nilp : frzV H base ban freezeDepth .nilp = some .nilp := rfl
@[simp] theorem frzV_no {es : List (List EV)} : frzV H base ban freezeDepth (.fz es .no) = some (.fz es .no) := rfl
@[simp] theorem frzV_tight {es : List (List EV)} : frzV H base ban freezeDepth (.fz es .tight) = some (.fz es .no) := rfl
@[simp] theorem frzV_tok {es : List (List EV)} {o : Nat} (h : base ≤ o) : frzV H base ban freezeDepth (.fz es (.tok o)) = some (.fz es .no) := by
  simp only [frzV, frzA, if_neg (show ¬ o < base by omega)]
@[simp] theorem frzV_tok' {es : List (List EV)} {o : Nat} (h : o < base) : frzV H base ban freezeDepth (.fz es (.tok o)) = some (.fz es (.tok o)) := by
  simp only [frzV, frzA, if_pos h]
@[simp] theorem frzV_ptr {o i : Nat} (h : o < base) : frzV H base ban freezeDepth (.ptr o i) = some (.ptr o i) := by
  simp only [frzV, frzA, if_pos h]
@[simp] theorem frzV_agg {vs : List EV} : frzV H base ban freezeDepth (.agg vs) = match mapO (frzA H base ban freezeDepth) vs with
    | some vs' => some (.agg vs')
    | none => none := rfl
@[simp] theorem frzA_int {k : IntKind} {n : Int} : frzA H base ban freezeDepth (.int k n) = some (.int k n) := rfl
@[simp] theorem frzA_bool {b : Bool} : frzA H base ban freezeDepth (.bool b) = some (.bool b) := rfl
@[simp] theorem frzA_str {s : Str} : frzA H base ban freezeDepth (.str s) = some (.str s) := rfl
@[simp] theorem frzA_nilp : frzA H base ban freezeDepth .nilp = some .nilp := rfl
@[simp] theorem frzA_no {es : List (List EV)} : frzA H base ban freezeDepth (.fz es .no) = some (.fz es .no) := rfl
@[simp] theorem frzA_tight {es : List (List EV)} : frzA H base ban freezeDepth (.fz es .tight) = some (.fz es .no) := rfl
@[simp] theorem frzA_tok {es : List (List EV)} {o : Nat} (h : base ≤ o) : frzA H base ban freezeDepth (.fz es (.tok o)) = some (.fz es .no) := by
  simp only [frzA, if_neg (show ¬ o < base by omega)]
end

/-- A slice that was made by appending, one by one, n times, from nil: its room, the heap's growth. -/
theorem room_le {te : TI} {n : Nat} : roomy te n = true ↔ n * (te.bytes + 1) ≤ 35184372088832 := by simp [roomy]
section
variable {H : Heap} {te : TI} {es xs ys : List (List EV)} {o m : Nat}
theorem grow_tight (h1 : rowsOk te.sz es = true) (h2 : (es.length + xs.length) * (te.bytes + 1) ≤ 35184372088832) (h3 : mapO (mapO still) xs = some ys) :
    growE true H te xs (.fz es .tight) = some (.fz (es ++ ys) (.tok H.length), H ++ [.tip ((es.length + xs.length) * te.sz)], []) := by
  simp only [growE, h1, room_le.2 h2, h3, and_self, if_true]
theorem grow_tok (h1 : rowsOk te.sz es = true) (h2 : (es.length + xs.length) * (te.bytes + 1) ≤ 35184372088832) (h3 : mapO (mapO still) xs = some ys) (h4 : H[o]? = some (.tip (es.length * te.sz))) :
    growE true H te xs (.fz es (.tok o)) = some (.fz (es ++ ys) (.tok H.length), H.set o .dead ++ [.tip ((es.length + xs.length) * te.sz)], [o]) := by
  simp only [growE, h1, room_le.2 h2, h3, h4, and_self, if_true]
end
/-- May a slice grow? -/
def Own (z : Nat) (G : Heap) (n : Nat) : Cap → Prop
  | .tight => True
  | .tok o => G[o]? = some (.tip (n * z))
  | .no => False
/-- What growing leaves of the heap, and writes. -/
def killH (G : Heap) : Cap → Heap
  | .tok o => G.set o .dead
  | _ => G
def killW : Cap → List Nat
  | .tok o => [o]
  | _ => []
@[simp] theorem own_tight {z n : Nat} {G : Heap} : Own z G n .tight := trivial
@[simp] theorem killH_tight {G : Heap} : killH G .tight = G := rfl
@[simp] theorem killW_tight : killW .tight = [] := rfl
@[simp] theorem killH_tok {G : Heap} {o : Nat} : killH G (.tok o) = G.set o .dead := rfl
@[simp] theorem killW_tok {o : Nat} : killW (.tok o) = [o] := rfl
@[simp] theorem killH_length {G : Heap} {k : Cap} : (killH G k).length = G.length := by cases k <;> simp [killH]
theorem killH_get {G : Heap} {k : Cap} {o : Nat} (h : k ≠ .tok o) : (killH G k)[o]? = G[o]? := by
  cases k with
  | tok o' => simp only [killH]; rw [List.getElem?_set, if_neg (fun e => h (by rw [e]))]
  | _ => rfl
theorem own_new {z n : Nat} {G : Heap} : Own z (G ++ [.tip (n * z)]) n (.tok G.length) := by simp [Own]
theorem append_own {T : TT} {st xt e e' z : Nat} {te : TI} {G : Heap} {es xs ys : List (List EV)} {k k' : Cap} (h1 : ∃ a b c d f, T st = some ⟨.slice e, a, b, c, d, f⟩) (h2 : ∃ a b c d f, T xt = some ⟨.slice e', a, b, c, d, f⟩) (h3 : T e = some te) (hz : te.sz = z)
    (hx : xs ≠ []) (hr : rowsOk z xs = true) (ho : xs.flatten.all EV.one = true) (hs : mapO (mapO still) xs = some ys) (he : rowsOk z es = true) (hb : (es.length + xs.length) * (te.bytes + 1) ≤ 35184372088832) (hk : Own z G es.length k) :
    appendE T true G st xt (.fz es k) (.fz xs k') = some (.fz (es ++ ys) (.tok G.length), killH G k ++ [.tip ((es.length + xs.length) * z)], killW k) := by
  obtain ⟨a, b, c, d, f, h1⟩ := h1
  obtain ⟨a', b', c', d', f', h2⟩ := h2
  subst hz
  unfold appendE
  rw [h1, h2]
  simp only [h3, newsE, sliceRows, hr, if_true]
  cases xs with
  | nil => exact absurd rfl hx
  | cons x xs =>
    simp only [ho, if_true]
    cases k with
    | no => exact hk.elim
    | tight => rw [grow_tight he hb hs]; rfl
    | tok o => rw [grow_tok he hb hs hk]; rfl
theorem append_nothing {T : TT} {vm : Bool} {st xt e e' : Nat} {te : TI} {G : Heap} {es : List (List EV)} {k k' : Cap} (h1 : ∃ a b c d f, T st = some ⟨.slice e, a, b, c, d, f⟩) (h2 : ∃ a b c d f, T xt = some ⟨.slice e', a, b, c, d, f⟩) (h3 : T e = some te) :
    appendE T vm G st xt (.fz es k) (.fz [] k') = some (.fz es k, G, []) := by
  obtain ⟨a, b, c, d, f, h1⟩ := h1
  obtain ⟨a', b', c', d', f', h2⟩ := h2
  unfold appendE
  rw [h1, h2]
  simp only [h3, newsE, sliceRows, nil_rows, if_true]
/-- What a call that keeps its slice hands back. -/
theorem finish2_tok {H H1 : Heap} {W : List Nat} {es : List (List EV)} {o m : Nat} (hW : W.filter (· < H.length) = []) (ho : H.length ≤ o) (hm : H1[o]? = some (.tip m)) : finishE 2 H H1 W (.fz es (.tok o)) = (.fz es (.tok H.length), H ++ [.tip m], []) := by
  simp only [finishE, hW, keepV, if_neg (show ¬ o < H.length by omega), hm]
theorem finish2_tight {H H1 : Heap} {W : List Nat} {es : List (List EV)} (hW : W.filter (· < H.length) = []) : finishE 2 H H1 W (.fz es .tight) = (.fz es .tight, H, []) := by
  simp only [finishE, hW, keepV]
end Go.Ev
end
