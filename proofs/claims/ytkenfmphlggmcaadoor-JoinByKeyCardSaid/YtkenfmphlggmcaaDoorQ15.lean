/- What narrowing is. -/
import Derived.Test.YtkenfmphlggmcaaDoorQ14

section
namespace Go.Ev
open Go Go.Proofs
set_option linter.unusedSimpArgs false
set_option linter.unusedVariables false
set_option maxRecDepth 100000
set_option maxHeartbeats 200000

theorem shapeN_bare (s : Str) : (shapeN s).keys = [] ∧ (shapeN s).l = [] := by
  unfold shapeN
  split <;> exact ⟨rfl, rfl⟩
/-- The errors of narrowing. -/
def nrwE (g : List GN) (n : Int) (s : Str) (ok : Bool) (h : List GN) : Int := if placesG g [n] ≠ 0 then placesG g [n] else if isShapeB s = false ∨ ok = false then 2 else if big h = true then 5 else 0
def nrwV (e : Int) (h : List GN) (a b : Int) : EV := .tup [.fz (nodes (if e = 0 then h else [])) .no, .int .i64 (if e = 0 then a else 0), .int .i64 (if e = 0 then b else 0), .int .i64 e]
/-- Narrowed by a shape. -/
def oneS (g : List GN) (s : Str) : Int → BB := narV g (plainF g (shapeN s))
def oneK (g : List GN) (key s : Str) : Int → BB := narV g (leafK g key (shapeN s))
def nshE (g : List GN) (n : Int) (s : Str) : Int := nrwE g n s true (narH g [] (shapeN s) (oneS g s) n)
def nkyE (g : List GN) (n : Int) (key s : Str) : Int := nrwE g n s (isName key) (narH g key (shapeN s) (oneK g key s) n)
theorem narrow_ok (g : List GN) (k : Cap) (n : Int) (s : Str) (H : Heap) (hg : Fair g) : CallR ep dQ 22 [.fz (nodes g) k, .int .i64 n, .str s] H (nrwV (nshE g n s) (narH g [] (shapeN s) (oneS g s) n) (narY g [] (shapeN s) (oneS g s) n) (narN g [] (shapeN s) (oneS g s) n)) H [] := by
  have hm := fun G kl => (joinMay_ok g k kl [n] G hg (by simp)).val
  have hs := fun G => (isShape_ok s G).val
  have hn := fun G => (node_ok s G).val
  rw [← ints_one] at hm
  unfold nshE nrwE nrwV
  by_cases h0 : placesG g [n] = 0
  · have hc : checkG g = 0 := by
      unfold placesG at h0
      split at h0
      · omega
      · omega
    by_cases h1 : isShapeB s = true
    · have hG := good_of hg hc
      have hnew : (H ++ [EO.cells (nwCells g k [] (shapeN s) .nilm .nilm)])[H.length]? = some (.cells (nwCells g k [] (shapeN s) .nilm .nilm)) := by simp
      have hb := byShape_ok g k [] (shapeN s) .nilm .nilm H.length _ hnew
      have hset : (H ++ [EO.cells (nwCells g k [] (shapeN s) .nilm .nilm)]).set H.length (.cells (nwCells g k [] (shapeN s) (.map (H ++ [EO.cells (nwCells g k [] (shapeN s) .nilm .nilm)]).length) .nilm)) ++ [EO.map (tabOf tbS H.length)] = H ++ [.cells (nwCells g k [] (shapeN s) (.map (H.length + 1)) .nilm), .map (tabOf tbS H.length)] := by simp [List.set_append]
      rw [hset] at hb
      have hnp : NP g k [] (shapeN s) tbS H.length (H.length + 1) [] .nilm [] (H ++ [.cells (nwCells g k [] (shapeN s) (.map (H.length + 1)) .nilm), .map (tabOf tbS H.length)]) := ⟨by simp, by simp, fun e => absurd rfl e⟩
      obtain ⟨v, H1, W1, hc1, k', hk', hW1, hv⟩ := narrowed_ok hG hc k [] (shapeN s) (shapeN_bare s) tbS _ (byShape_all hG k [] (shapeN s) g.length).1 _ H.length (H.length + 1) .nilm n hnp
      have hfar := hf1 (H := H) (W := H.length :: W1) (fun y hy => by
        rcases List.mem_cons.1 hy with hy | hy
        · omega
        · have := hW1 y hy; omega)
      have hbv := hb.val
      have hcv := hc1.val
      rw [hv] at hcv
      have hz := fun G es => frzV_far (H := G) (base := H.length) (ban := none) (es := es) (k := k') (fun a e => by have := hk' a e; simp at this; omega)
      unfold nwCells at hbv hcv
      simp only [(shapeN_bare s).1, (shapeN_bare s).2, strs_nil, ints_nil] at hbv hcv
      have hsn := shapeN_bare s
      unfold oneS
      refine CallW.is (CallW.body rfl fn_22 (by unfold Tryd.f22; rfl) (by rfl) (by unfold Tryd.f22; simp) ?_)
      unfold Tryd.f22
      by_cases hbig : big (narH g [] (shapeN s) (narV g (plainF g (shapeN s))) n) = true
      · rw [if_pos hbig] at hcv
        simp (config := { contextual := true, maxSteps := 1000000 }) [-Int.not_le, -Int.not_lt, -Nat.not_le, -Nat.not_lt, hm, hs, hn, h0, h1, hbv, hcv, hfar, hz, hbig, hsn]
      · rw [if_neg hbig] at hcv
        simp (config := { contextual := true, maxSteps := 1000000 }) [-Int.not_le, -Int.not_lt, -Nat.not_le, -Nat.not_lt, hm, hs, hn, h0, h1, hbv, hcv, hfar, hz, hbig, hsn]
    · refine CallW.is (CallW.body rfl fn_22 (by unfold Tryd.f22; rfl) (by rfl) (by unfold Tryd.f22; simp) ?_)
      unfold Tryd.f22
      simp (config := { contextual := true, maxSteps := 1000000 }) [-Int.not_le, -Int.not_lt, -Nat.not_le, -Nat.not_lt, hm, hs, hn, h0, h1]
  · refine CallW.is (CallW.body rfl fn_22 (by unfold Tryd.f22; rfl) (by rfl) (by unfold Tryd.f22; simp) ?_)
    unfold Tryd.f22
    simp (config := { contextual := true, maxSteps := 1000000 }) [-Int.not_le, -Int.not_lt, -Nat.not_le, -Nat.not_lt, hm, hs, hn, h0]
theorem narrowBy_ok (g : List GN) (k : Cap) (n : Int) (key s : Str) (H : Heap) (hg : Fair g) : CallR ep dQ 26 [.fz (nodes g) k, .int .i64 n, .str key, .str s] H (nrwV (nkyE g n key s) (narH g key (shapeN s) (oneK g key s) n) (narY g key (shapeN s) (oneK g key s) n) (narN g key (shapeN s) (oneK g key s) n)) H [] := by
  have hm := fun G kl => (joinMay_ok g k kl [n] G hg (by simp)).val
  have hs := fun G => (isShape_ok s G).val
  have hnm := fun G => (isName_ok key G).val
  have hn := fun G => (node_ok s G).val
  rw [← ints_one] at hm
  unfold nkyE nrwE nrwV
  by_cases h0 : placesG g [n] = 0
  · have hc : checkG g = 0 := by
      unfold placesG at h0
      split at h0
      · omega
      · omega
    by_cases h1 : isShapeB s = true ∧ isName key = true
    · have hG := good_of hg hc
      have hnew : (H ++ [EO.cells (nwCells g k key (shapeN s) .nilm .nilm)])[H.length]? = some (.cells (nwCells g k key (shapeN s) .nilm .nilm)) := by simp
      have hb := byKey_ok g k key (shapeN s) .nilm .nilm H.length _ hnew
      have hset : (H ++ [EO.cells (nwCells g k key (shapeN s) .nilm .nilm)]).set H.length (.cells (nwCells g k key (shapeN s) (.map (H ++ [EO.cells (nwCells g k key (shapeN s) .nilm .nilm)]).length) .nilm)) ++ [EO.map (tabOf tbK H.length)] = H ++ [.cells (nwCells g k key (shapeN s) (.map (H.length + 1)) .nilm), .map (tabOf tbK H.length)] := by simp [List.set_append]
      rw [hset] at hb
      have hnp : NP g k key (shapeN s) tbK H.length (H.length + 1) [] .nilm [] (H ++ [.cells (nwCells g k key (shapeN s) (.map (H.length + 1)) .nilm), .map (tabOf tbK H.length)]) := ⟨by simp, by simp, fun e => absurd rfl e⟩
      obtain ⟨v, H1, W1, hc1, k', hk', hW1, hv⟩ := narrowed_ok hG hc k key (shapeN s) (shapeN_bare s) tbK _ (byKey_all hG k key (shapeN s) g.length).1 _ H.length (H.length + 1) .nilm n hnp
      have hfar := hf1 (H := H) (W := H.length :: W1) (fun y hy => by
        rcases List.mem_cons.1 hy with hy | hy
        · omega
        · have := hW1 y hy; omega)
      have hbv := hb.val
      have hcv := hc1.val
      rw [hv] at hcv
      have hz := fun G es => frzV_far (H := G) (base := H.length) (ban := none) (es := es) (k := k') (fun a e => by have := hk' a e; simp at this; omega)
      unfold nwCells at hbv hcv
      simp only [(shapeN_bare s).1, (shapeN_bare s).2, strs_nil, ints_nil] at hbv hcv
      have hsn := shapeN_bare s
      unfold oneK
      refine CallW.is (CallW.body rfl fn_26 (by unfold Tryd.f26; rfl) (by rfl) (by unfold Tryd.f26; simp) ?_)
      unfold Tryd.f26
      by_cases hbig : big (narH g key (shapeN s) (narV g (leafK g key (shapeN s))) n) = true
      · rw [if_pos hbig] at hcv
        simp (config := { contextual := true, maxSteps := 1000000 }) [-Int.not_le, -Int.not_lt, -Nat.not_le, -Nat.not_lt, hm, hs, hn, hnm, h0, h1, hbv, hcv, hfar, hz, hbig, hsn]
      · rw [if_neg hbig] at hcv
        simp (config := { contextual := true, maxSteps := 1000000 }) [-Int.not_le, -Int.not_lt, -Nat.not_le, -Nat.not_lt, hm, hs, hn, hnm, h0, h1, hbv, hcv, hfar, hz, hbig, hsn]
    · refine CallW.is (CallW.body rfl fn_26 (by unfold Tryd.f26; rfl) (by rfl) (by unfold Tryd.f26; simp) ?_)
      unfold Tryd.f26
      by_cases h2 : isShapeB s = true
      · have h3 : isName key = false := by simpa [h2] using h1
        simp (config := { contextual := true, maxSteps := 1000000 }) [-Int.not_le, -Int.not_lt, -Nat.not_le, -Nat.not_lt, hm, hs, hn, hnm, h0, h2, h3]
      · simp (config := { contextual := true, maxSteps := 1000000 }) [-Int.not_le, -Int.not_lt, -Nat.not_le, -Nat.not_lt, hm, hs, hn, hnm, h0, h2]
  · refine CallW.is (CallW.body rfl fn_26 (by unfold Tryd.f26; rfl) (by rfl) (by unfold Tryd.f26; simp) ?_)
    unfold Tryd.f26
    simp (config := { contextual := true, maxSteps := 1000000 }) [-Int.not_le, -Int.not_lt, -Nat.not_le, -Nat.not_lt, hm, hs, hn, h0]
end Go.Ev
end

/- What the fields of a type are. -/
section
namespace Go.Ev
open Go Go.Proofs
set_option linter.unusedSimpArgs false
set_option linter.unusedVariables false
set_option maxRecDepth 100000
set_option maxHeartbeats 400000

theorem app_intsB {G : Heap} {l m : List Int} {k k' : Cap} (hb : l.length + m.length ≤ 1000000000000) (hk : Own 1 G l.length k) (hm : m ≠ []) : appendE ep.T true G 23 23 (.fz (ints l) k) (.fz (ints m) k') = some (.fz (ints (l ++ m)) (.tok G.length), killH G k ++ [.tip (l.length + m.length)], killW k) := by
  have h := append_own (T := ep.T) (G := G) (es := ints l) (xs := ints m) (ys := ints m) (k := k) (k' := k') (z := 1) ⟨_, _, _, _, _, ty_23⟩ ⟨_, _, _, _, _, ty_23⟩ ty_3 rfl (by simpa [ints] using hm) ints_rows ints_ones ints_still ints_rows (by simp; omega) (by simpa using hk)
  simpa using h
/-- More of a slice of one's own, whatever that is. -/
theorem Acc.more_of {H G : Heap} {l m : List Int} {ka k' : Cap} {W : List Nat} (h : Acc H G l.length ka W) (hb : l.length + m.length ≤ 1000000000000) : ∃ G' kb W', appendE ep.T true G 23 23 (.fz (ints l) ka) (.fz (ints m) k') = some (.fz (ints (l ++ m)) kb, G', W') ∧ Acc H G' (l ++ m).length kb (W ++ W') ∧ G.length ≤ G'.length := by
  by_cases hm : m = []
  · subst hm
    exact ⟨G, ka, [], by simpa using append_nothing (T := ep.T) (vm := true) (G := G) (es := ints l) (k := ka) (k' := k') ⟨_, _, _, _, _, ty_23⟩ ⟨_, _, _, _, _, ty_23⟩ ty_3, by simpa using h, Nat.le_refl _⟩
  · refine ⟨_, _, _, app_intsB hb h.own hm, ⟨h.grw.trans kill_grw, fun o ho => ?_, by simp [Own, killH_length], fun o e => ?_⟩, by simp [killH_length]⟩
    · rcases List.mem_append.1 ho with ho | ho
      · exact h.wrt o ho
      · cases ka with
        | tok a => simp at ho; rw [ho]; exact h.new a rfl
        | _ => simp [killW] at ho
    · injection e with e
      have := h.grw.1
      omega
section
variable (g : List GN) (key : Str)
/-- What lies at a key, of a node. -/
def fldOne (deep : List Int → Int → Option (List Int)) (op : List Int) (m : Int) : Option (List Int) :=
  if (at0 g m).kind = 1 then some [m]
  else if (at0 g m).kind = 9 ∧ m ∉ op then deep (op ++ [m]) ((at0 g m).l.headD 0)
  else if key ∈ (at0 g m).keys then some [(at0 g m).l.getD (bsN (at0 g m).keys key) 0]
  else none
def fldL (deep : List Int → Int → Option (List Int)) (op : List Int) : List Int → List Int → Option (List Int)
  | acc, [] => some acc
  | acc, m :: ms => match fldOne g key deep op m with
    | some l => fldL deep op (acc ++ l) ms
    | none => none
def fldF : Nat → List Int → Int → Option (List Int)
  | 0 => fun op n => fldL g key (fun _ _ => none) op [] (members g n)
  | k + 1 => fun op n => fldL g key (fldF k) op [] (members g n)
def fldD : Nat → List Int → Int → Option (List Int)
  | 0 => fun _ _ => none
  | k + 1 => fldF g key k
end
theorem fldF_eq {g : List GN} {key : Str} {k : Nat} {op : List Int} {n : Int} : fldF g key k op n = fldL g key (fldD g key k) op [] (members g n) := by cases k <;> rfl
theorem fldL_app {g : List GN} {key : Str} {deep : List Int → Int → Option (List Int)} {op : List Int} : ∀ (a b acc : List Int), fldL g key deep op acc (a ++ b) = match fldL g key deep op acc a with
    | some l => fldL g key deep op l b
    | none => none
  | [], b, acc => rfl
  | m :: a, b, acc => by
    simp only [List.cons_append, fldL]
    cases fldOne g key deep op m with
    | none => rfl
    | some l => exact fldL_app a b _
/-- No list of fields is too long: those of a type, and of all that is asked for it. -/
def PreB (g : List GN) (key : Str) (k : Nat) (op : List Int) (n : Int) : Prop := ∀ i l, fldL g key (fldD g key k) op [] ((members g n).take i) = some l → l.length ≤ 400000000000
def FldB (g : List GN) (key : Str) : Nat → List Int → Int → Prop
  | 0, op, n => PreB g key 0 op n
  | k + 1, op, n => PreB g key (k + 1) op n ∧ ∀ m ∈ members g n, (at0 g m).kind = 9 → m ∉ op → FldB g key k (op ++ [m]) ((at0 g m).l.headD 0)
theorem FldB.pre {g : List GN} {key : Str} : ∀ {k : Nat} {op : List Int} {n : Int}, FldB g key k op n → PreB g key k op n
  | 0, _, _, h => h
  | _ + 1, _, _, h => h.1
def fldV (r : Option (List Int)) : EV := match r with
  | some l => .tup [.fz (ints l) .no, .bool true]
  | none => .tup [.fz [] .no, .bool false]
theorem good_keys {g : List GN} (hc : checkG g = 0) {m : Int} (hm : inG g m) : risen (at0 g m).keys = true ∧ ((at0 g m).keys.length ≤ (at0 g m).l.length) := by
  have hok : nodeOk g (at0 g m) = true := (check_ok0 hc).2 _ (at0_mem (by unfold inG at hm; omega))
  by_cases h7 : (at0 g m).kind = 7
  · simp [nodeOk, h7] at hok
    exact ⟨hok.2.1.2, by omega⟩
  · have : (at0 g m).keys = [] := by
      simp only [nodeOk, fitP, Bool.and_eq_true, Bool.or_eq_true, beq_iff_eq] at hok
      exact hok.1.2.resolve_right h7
    rw [this]
    exact ⟨rfl, by simp⟩
def FSpec (g : List GN) (kg : Cap) (key : Str) (k : Nat) : Prop :=
  ∀ (H : Heap) (op : List Int) (ko : Cap) (n : Int), g.length ≤ op.length + k → op.Nodup → (∀ x ∈ op, 0 ≤ x ∧ x < (g.length : Int)) → FldB g key k op n →
    CallR ep dQ 40 [.fz (nodes g) kg, .int .i64 n, .str key, .fz (ints op) ko] H (fldV (fldF g key k op n)) H []
theorem Acc.app {H G : Heap} {n : Nat} {ka : Cap} {W : List Nat} (h : Acc H G n ka W) (x : EO) : Acc H (G ++ [x]) n ka (W ++ [G.length]) := by
  have hl := h.grw.1
  refine ⟨⟨by simp; omega, fun y hy hn => ?_⟩, fun y hy => ?_, ?_, h.new⟩
  · rw [List.getElem?_append_left (by omega)]
    exact h.grw.2 y hy (fun e => hn (List.mem_append_left _ e))
  · rcases List.mem_append.1 hy with hy | hy
    · exact h.wrt y hy
    · rw [List.mem_singleton] at hy; omega
  · have := h.own
    cases ka with
    | no => exact this
    | tight => exact this
    | tok o => exact app_get this _
theorem Acc.frame {H G G' : Heap} {n : Nat} {ka : Cap} {W W2 : List Nat} (h : Acc H G n ka W) (hl : G.length ≤ G'.length) (hk : ∀ y < G.length, G'[y]? = G[y]?) (hw : ∀ y ∈ W2, H.length ≤ y) : Acc H G' n ka (W ++ W2) := by
  have hg := h.grw.1
  refine ⟨⟨by omega, fun y hy hn => ?_⟩, fun y hy => ?_, ?_, h.new⟩
  · rw [hk y (by omega)]
    exact h.grw.2 y hy (fun e => hn (List.mem_append_left _ e))
  · rcases List.mem_append.1 hy with hy | hy
    · exact h.wrt y hy
    · exact hw y hy
  · have := h.own
    cases ka with
    | no => exact this
    | tight => exact this
    | tok o => simp only [Own] at this ⊢; rw [hk o (List.getElem?_eq_some_iff.1 this).1]; exact this
theorem clone_kept {G : Heap} {op : List Int} {x : EO} : ∀ y < G.length, (killH (cloneH G op) (cloneK G op) ++ [x])[y]? = G[y]? := fun y hy => by
  unfold cloneH cloneK
  split
  · simp [List.getElem?_append_left hy]
  · rw [List.getElem?_append_left (by simp; omega), killH_get (by simp; omega), List.getElem?_append_left hy]
theorem Acc.congr {H G : Heap} {n : Nat} {ka : Cap} {W W' : List Nat} (h : Acc H G n ka W) (e : ∀ x, x ∈ W' ↔ x ∈ W) : Acc H G n ka W' :=
  ⟨⟨h.grw.1, fun x hx hn => h.grw.2 x hx (fun hm => hn ((e x).2 hm))⟩, fun x hx => h.wrt x ((e x).1 hx), h.own, h.new⟩
theorem flds_of {g : List GN} (hg : Good g) (hc : checkG g = 0) (kg : Cap) (key : Str) (k : Nat) (ih : ∀ k', k = k' + 1 → FSpec g kg key k') : FSpec g kg key k := by
  intro H op ko n hk hnd hop hB
  have hm := fun G' => (members_ok g kg n G' hg.fair).val
  have hml := members_len hg.fair n
  have hopl : op.length ≤ g.length := nodup_bound hnd hop
  have hgl := hg.fair.1
  rw [fldF_eq]
  refine CallW.is (CallW.body rfl fn_40 (by unfold Tryd.f40; rfl) (by rfl) (by unfold Tryd.f40; simp) ?_)
  unfold Tryd.f40
  simp (config := { contextual := true, maxSteps := 1000000 }) [-Int.not_le, -Int.not_lt, -Nat.not_le, -Nat.not_lt, hm]
  refine LoopI.inv (fun s : Nat × List Int × Cap × Heap => [(0, .fz (nodes g) kg), (2, .str key), (3, .fz (ints op) ko), (8, .fz (ints s.2.1) s.2.2.1), (19, .fz (ints (members g n)) .no), (20, .int .i64 (members g n).length), (21, .int .i64 s.1)]) (fun s => s.2.2.2)
    (fun s W => s.1 ≤ (members g n).length ∧ Acc H s.2.2.2 s.2.1.length s.2.2.1 W ∧ fldL g key (fldD g key k) op [] ((members g n).take s.1) = some s.2.1) (fun s => (members g n).length - s.1) (0, [], .tight, H) (by simp [fldL]; exact ⟨.refl, fun o h => (by cases h), trivial, fun o e => by cases e⟩) ?_
  rintro ⟨i, acc, ka, G⟩ W ⟨hi, hA, hacc⟩
  dsimp only at hi hA hacc
  have hw := wrap_succ (i := i) (by omega)
  have haccl := hB.pre _ _ hacc
  by_cases hi' : i < (members g n).length
  · have hsplit := fldL_app (g := g) (key := key) (deep := fldD g key k) (op := op) ((members g n).take i) ((members g n).drop i) []
    rw [List.take_append_drop, hacc] at hsplit
    obtain ⟨m, hme⟩ : ∃ m, m = (members g n)[i] := ⟨_, rfl⟩
    rw [List.drop_eq_getElem_cons hi', ← hme] at hsplit
    have hmi := hg.mem n _ (List.getElem_mem hi')
    rw [← hme] at hmi
    have hnext : fldL g key (fldD g key k) op [] ((members g n).take (i + 1)) = match fldOne g key (fldD g key k) op m with
        | some l => some (acc ++ l)
        | none => none := by
      rw [List.take_add_one, List.getElem?_eq_getElem hi', ← hme, fldL_app, hacc]
      simp only [Option.toList, fldL]
    obtain ⟨j, rfl⟩ : ∃ j : Nat, m = j := ⟨m.toNat, by have := hmi.1; omega⟩
    have hjl : j < g.length := by have := hmi.2; omega
    have hat := at0_nat hjl
    have hfr := hg.fair.2 _ (List.getElem_mem hjl)
    obtain ⟨hrs, hkl⟩ := good_keys hc hmi
    rw [hat] at hrs hkl
    have hbs := fun G => (search_ok g[j].keys .no key G hfr.2 hrs).val
    have hcon := fun G => (containsI_ok op ko j G (by omega)).val
    have hHG : H.length ≤ G.length := hA.grw.1
    have hW := hA.wrt
    have hWf : ∀ x ∈ W ++ [G.length], H.length ≤ x := fun x hx => by
      rcases List.mem_append.1 hx with hx | hx
      · exact hW x hx
      · rw [List.mem_singleton] at hx; omega
    have hAx : Acc H (G ++ [.cells [.int .i64 g[j].kind, .int .i64 g[j].num, .str g[j].name, .fz (strs g[j].keys) .no, .fz (ints g[j].l) .no]]) acc.length ka (W ++ [G.length]) := hA.app _
    have close : ∀ (l : List Int) (G' : Heap) (kb : Cap) (W' : List Nat), fldOne g key (fldD g key k) op j = some l → Acc H G' (acc ++ l).length kb (W ++ W') →
        ∃ a, (members g n).length - a < (members g n).length - i ∧ ∃ a_1 a_2 b, (a ≤ (members g n).length ∧ Acc H b (List.length a_1) a_2 (W ++ W') ∧ fldL g key (fldD g key k) op [] (List.take a (members g n)) = some a_1) ∧ G' = b ∧ (ints (acc ++ l) = ints a_1 ∧ kb = a_2) ∧ (i : Int) + 1 = (a : Int) := by
      intro l G' kb W' e h
      refine ⟨i + 1, by omega, acc ++ l, kb, G', ⟨by omega, h, ?_⟩, rfl, ⟨rfl, rfl⟩, by simp⟩
      rw [hnext, e]
    have fin : ∀ (G' : Heap) (W' : List Nat), fldOne g key (fldD g key k) op j = none → (∀ x ∈ W', H.length ≤ x) → fldL g key (fldD g key k) op [] (members g n) = none := by
      intro G' W' e h
      rw [hsplit]
      simp only [fldL, e]
    by_cases k1 : g[j].kind = 1
    · have hone : fldOne g key (fldD g key k) op j = some [(j : Int)] := by simp [fldOne, hat, k1]
      obtain ⟨G', kb, W', hap, hA', hl'⟩ := hAx.more_of (m := [(j : Int)]) (k' := .tight) (by simp; omega)
      rw [← ints_one, k1] at hap
      simp (config := { contextual := true, maxSteps := 1000000 }) [-Int.not_le, -Int.not_lt, -Nat.not_le, -Nat.not_lt, hw, hi', ← hme, hjl, k1, hap]
      exact close _ _ _ _ hone (hA'.congr fun x => by simp [or_assoc])
    by_cases k9 : g[j].kind = 9 ∧ (j : Int) ∉ op
    · obtain ⟨k9, hin⟩ := k9
      obtain ⟨x, hx⟩ := hg.var j hmi (by rw [hat]; exact k9)
      rw [hat] at hx
      have hnd2 : (op ++ [(j : Int)]).Nodup := by
        rw [List.nodup_append]
        exact ⟨hnd, by simp, fun a ha b hb => by rw [List.mem_singleton] at hb; subst hb; rintro rfl; exact hin ha⟩
      have hop2 : ∀ y ∈ op ++ [(j : Int)], 0 ≤ y ∧ y < (g.length : Int) := fun y hy => by
        rcases List.mem_append.1 hy with hy | hy
        · exact hop y hy
        · rw [List.mem_singleton] at hy; omega
      have hopl2 : op.length + 1 ≤ g.length := by simpa using nodup_bound hnd2 hop2
      obtain ⟨k', rfl⟩ : ∃ k', k = k' + 1 := ⟨k - 1, by omega⟩
      have hone : fldOne g key (fldD g key (k' + 1)) op j = fldF g key k' (op ++ [(j : Int)]) x := by simp [fldOne, hat, k9, hin, fldD, hx]
      obtain ⟨GX, hGX⟩ : ∃ GX, GX = G ++ [EO.cells [.int .i64 g[j].kind, .int .i64 g[j].num, .str g[j].name, .fz (strs g[j].keys) .no, .fz (ints g[j].l) .no]] := ⟨_, rfl⟩
      rw [← hGX] at hAx
      have hx0 : GX[G.length]? = some (.cells [.int .i64 9, .int .i64 g[j].num, .str g[j].name, .fz (strs g[j].keys) .no, .fz (ints [x]) .no]) := by rw [hGX]; simp [k9, hx]
      have hlx : GX.length = G.length + 1 := by rw [hGX]; simp
      have hcl := (cloneI_ok op ko GX (by omega)).val
      have hap1 := fun k' => app_int (G := cloneH GX op) (l := op) (x := (j : Int)) (k := cloneK GX op) (k' := k') (by omega) clone_own
      obtain ⟨GC, hGC⟩ : ∃ GC, GC = killH (cloneH GX op) (cloneK GX op) ++ [EO.tip (op.length + 1)] := ⟨_, rfl⟩
      simp only [← hGC] at hap1
      have hcall := (ih k' rfl GC (op ++ [(j : Int)]) (.tok (cloneH GX op).length) x (by simp; omega) hnd2 hop2 (by have := hB.2 j (by rw [hme]; exact List.getElem_mem hi') (by rw [hat]; exact k9) hin; rw [hat, hx] at this; exact this)).val
      have hlc : GX.length ≤ GC.length := by rw [hGC]; simp [cloneH_eq, killH_length]; omega
      have hAc : Acc H GC acc.length ka (W ++ [G.length] ++ killW (cloneK GX op)) := hAx.frame hlc (fun y hy => by rw [hGC]; exact clone_kept y hy) (fun y hy => by rw [killW_clone y hy]; omega)
      have hal : aliveE (cloneH GX op) (killW (cloneK GX op)) := by
        unfold cloneH cloneK
        split <;> simp [aliveE, deadAt]
      have hWc : ∀ y ∈ W ++ (G.length :: killW (cloneK GX op)), H.length ≤ y := fun y hy => hAc.wrt y (by simpa using hy)
      have hGX2 : G ++ [EO.cells [.int .i64 9, .int .i64 g[j].num, .str g[j].name, .fz (strs g[j].keys) .no, .fz (ints [x]) .no]] = GX := by rw [hGX]; simp [k9, hx]
      have n1 : G.length < GX.length := by omega
      have n2 : ¬ G.length = GX.length := by omega
      have hinE : inE [GX.length] (killW (cloneK GX op)) := inE_iff.2 fun y hy => by simp [killW_clone y hy]
      cases hr : fldF g key k' (op ++ [(j : Int)]) x with
      | none =>
        rw [hr] at hone hcall
        simp (config := { contextual := true, maxSteps := 1000000 }) [-Int.not_le, -Int.not_lt, -Nat.not_le, -Nat.not_lt, hw, hi', ← hme, hjl, hx, k9, hin, hcon, hGX2, ↓hx0]
        refine ⟨by kernel_rfl, draw2R_of [.p false, .p false, .p false, .p false, .p false, .p false, .p false, .c false [], .p false, .p false, .a [], .c false [], .p false, .p false, .p false, .p false, .p false] [] (by kernel_rfl) (by kernel_rfl) [GX.length] ?_⟩
        simp (config := { contextual := true, maxSteps := 1000000 }) [-Int.not_le, -Int.not_lt, -Nat.not_le, -Nat.not_lt, ↓hx0, n1, n2, hcl, hap1, hal, hcall, fldV, hinE]
        have hfn := fin GC [] hone (by simp)
        simp [hfn, hf1 hWc]
      | some l =>
        rw [hr] at hone hcall
        have hnx := hnext
        rw [hone] at hnx
        have hbl := hB.pre _ _ hnx
        obtain ⟨G', kb, W', hap, hA', hl'⟩ := hAc.more_of (m := l) (k' := .no) (by simpa using Nat.le_trans hbl (by omega))
        simp (config := { contextual := true, maxSteps := 1000000 }) [-Int.not_le, -Int.not_lt, -Nat.not_le, -Nat.not_lt, hw, hi', ← hme, hjl, hx, k9, hin, hcon, hGX2, ↓hx0]
        refine ⟨by kernel_rfl, draw2R_of [.p false, .p false, .p false, .p false, .p false, .p false, .p false, .c false [], .p false, .p false, .a [], .c false [], .p false, .p false, .p false, .p false, .p false] [] (by kernel_rfl) (by kernel_rfl) [GX.length] ?_⟩
        simp (config := { contextual := true, maxSteps := 1000000 }) [-Int.not_le, -Int.not_lt, -Nat.not_le, -Nat.not_lt, hw, ↓hx0, n1, n2, hcl, hap1, hal, hcall, fldV, hinE, hap]
        exact close l _ _ _ hone (hA'.congr fun x => by simp [or_assoc])
    · by_cases hkey : key ∈ g[j].keys
      · have hone : fldOne g key (fldD g key k) op j = some [g[j].l.getD (bsN g[j].keys key) 0] := by simp [fldOne, hat, k1, k9, hkey]
        have hbl := bsN_lt hrs (List.contains_iff_mem.2 hkey)
        have hbl2 : bsN g[j].keys key < g[j].l.length := by omega
        have hgd : g[j].l.getD (bsN g[j].keys key) 0 = g[j].l[bsN g[j].keys key] := by rw [List.getD_eq_getElem?_getD, List.getElem?_eq_getElem hbl2]; rfl
        rw [hgd] at hone
        obtain ⟨G', kb, W', hap, hA', hl'⟩ := hAx.more_of (m := [g[j].l[bsN g[j].keys key]]) (k' := .tight) (by simp; omega)
        rw [← ints_one] at hap
        by_cases h9 : g[j].kind = 9
        · have hin : (j : Int) ∈ op := by
            by_cases hin : (j : Int) ∈ op
            · exact hin
            · exact absurd ⟨h9, hin⟩ k9
          rw [h9] at hap
          simp (config := { contextual := true, maxSteps := 1000000 }) [-Int.not_le, -Int.not_lt, -Nat.not_le, -Nat.not_lt, hw, hi', ← hme, hjl, h9, hin, hcon, hbs, hkey, hbl2, hap]
          exact close _ _ _ _ hone (hA'.congr fun x => by simp [or_assoc])
        · simp (config := { contextual := true, maxSteps := 1000000 }) [-Int.not_le, -Int.not_lt, -Nat.not_le, -Nat.not_lt, hw, hi', ← hme, hjl, k1, h9, hbs, hkey, hbl2, hap]
          exact close _ _ _ _ hone (hA'.congr fun x => by simp [or_assoc])
      · have hone : fldOne g key (fldD g key k) op j = none := by simp [fldOne, hat, k1, k9, hkey]
        by_cases h9 : g[j].kind = 9
        · have hin : (j : Int) ∈ op := by
            by_cases hin : (j : Int) ∈ op
            · exact hin
            · exact absurd ⟨h9, hin⟩ k9
          simp (config := { contextual := true, maxSteps := 1000000 }) [-Int.not_le, -Int.not_lt, -Nat.not_le, -Nat.not_lt, hw, hi', ← hme, hjl, h9, hin, hcon, hbs, hkey, hf1 hWf]
          rw [fin G W hone hW]
          rfl
        · simp (config := { contextual := true, maxSteps := 1000000 }) [-Int.not_le, -Int.not_lt, -Nat.not_le, -Nat.not_lt, hw, hi', ← hme, hjl, k1, h9, hbs, hkey, hf1 hWf]
          rw [fin G W hone hW]
          rfl
  · have hz := frzV_far (H := G) (base := H.length) (ban := none) (es := ints acc) (k := ka) hA.new
    have hie : i = (members g n).length := by omega
    rw [hie, List.take_length] at hacc
    simp (config := { contextual := true, maxSteps := 1000000 }) [-Int.not_le, -Int.not_lt, -Nat.not_le, -Nat.not_lt, hw, hi', hf1 hA.wrt, hz]
    rw [hacc]
    rfl
theorem flds_all {g : List GN} (hg : Good g) (hc : checkG g = 0) (kg : Cap) (key : Str) : ∀ k, FSpec g kg key k
  | 0 => flds_of hg hc kg key 0 (fun k' e => by omega)
  | k + 1 => flds_of hg hc kg key (k + 1) (fun k' e => by
    have : k' = k := by omega
    subst this
    exact flds_all hg hc kg key k')
/-- The fields of a type. -/
def flds (g : List GN) (key : Str) (n : Int) : Option (List Int) := fldF g key g.length [] n
def fieldE0 (g : List GN) (n : Int) (key : Str) : Int := if placesG g [n] ≠ 0 then placesG g [n] else match flds g key n with
  | some l => ofE g l
  | none => 160
def fieldL (g : List GN) (n : Int) (key : Str) : List Int := (flds g key n).getD []
theorem joinField_ok (g : List GN) (k : Cap) (n : Int) (key : Str) (H : Heap) (hg : Fair g) (hB : placesG g [n] = 0 → FldB g key g.length [] n) : CallR ep dQ 16 [.fz (nodes g) k, .int .i64 n, .str key] H (.tup [.fz (nodes (if fieldE0 g n key = 0 then joinedG g (fieldL g n key) else [])) .no, .int .i64 (if fieldE0 g n key = 0 then joinedN g (fieldL g n key) else 0), .int .i64 (fieldE0 g n key)]) H [] := by
  have hm := fun G kl => (joinMay_ok g k kl [n] G hg (by simp)).val
  rw [← ints_one] at hm
  refine CallW.is (CallW.body rfl fn_16 (by unfold Tryd.f16; rfl) (by rfl) (by unfold Tryd.f16; simp) ?_)
  unfold Tryd.f16
  by_cases h0 : placesG g [n] = 0
  · have hc : checkG g = 0 := by
      unfold placesG at h0
      split at h0
      · omega
      · omega
    have hG := good_of hg hc
    have hf := fun G => (flds_all hG hc k key g.length G [] .tight n (by simp) (by simp) (by simp) (hB h0)).val
    simp only [ints_nil] at hf
    rw [show fldF g key g.length [] n = flds g key n from rfl] at hf
    cases hr : flds g key n with
    | none =>
      rw [hr] at hf
      simp only [fldV] at hf
      simp (config := { contextual := true, maxSteps := 1000000 }) [-Int.not_le, -Int.not_lt, -Nat.not_le, -Nat.not_lt, hm, h0, hf, fieldE0, hr]
    | some l =>
      rw [hr] at hf
      have hl : l.length ≤ 400000000000 := by
        have h1 := hr
        unfold flds at h1
        rw [fldF_eq] at h1
        have := (hB h0).pre (members g n).length l (by rw [List.take_length]; exact h1)
        exact this
      have hof := fun G => (of_ok g l k .no G hg (by omega)).val
      simp only [fldV] at hf
      simp (config := { contextual := true, maxSteps := 1000000 }) [-Int.not_le, -Int.not_lt, -Nat.not_le, -Nat.not_lt, hm, h0, hf, fieldE0, fieldL, hr, hof]
  · simp (config := { contextual := true, maxSteps := 1000000 }) [-Int.not_le, -Int.not_lt, -Nat.not_le, -Nat.not_lt, hm, h0, fieldE0]
/-- Of types that are of no variable. -/
theorem fldL_len {g : List GN} {key : Str} {deep : List Int → Int → Option (List Int)} {op : List Int} : ∀ (ms acc l : List Int), (∀ m ∈ ms, (at0 g m).kind ≠ 9) → fldL g key deep op acc ms = some l → l.length = acc.length + ms.length
  | [], acc, l, _, h => by
    simp only [fldL] at h
    injection h with h
    subst h
    simp
  | m :: ms, acc, l, hv, h => by
    simp only [fldL] at h
    have h9 := hv m (List.mem_cons_self ..)
    cases ho : fldOne g key deep op m with
    | none => rw [ho] at h; cases h
    | some l1 =>
      rw [ho] at h
      have h1 : l1.length = 1 := by
        unfold fldOne at ho
        split at ho
        · injection ho with ho; subst ho; rfl
        · rw [if_neg (fun e => h9 e.1)] at ho
          split at ho
          · injection ho with ho; subst ho; rfl
          · cases ho
      have := fldL_len ms _ l (fun x hx => hv x (List.mem_cons_of_mem _ hx)) h
      rw [this, List.length_append, List.length_cons, h1]
      omega
theorem fldB_plain {g : List GN} {key : Str} {k : Nat} {op : List Int} {n : Int} (hm : (members g n).length ≤ 1000000) (h : ∀ m ∈ members g n, (at0 g m).kind ≠ 9) : FldB g key k op n := by
  have hp : ∀ k, PreB g key k op n := fun k i l hl => by
    have := fldL_len _ _ _ (fun m hm => h m (List.mem_of_mem_take hm)) hl
    rw [this]
    simp
    omega
  cases k with
  | zero => exact hp 0
  | succ k => exact ⟨hp _, fun m hm h9 => absurd h9 (h m hm)⟩
end Go.Ev
end

/- What the law's helpers compute: cut. -/
section
namespace Go.Ev
open Go Go.Proofs
set_option linter.unusedSimpArgs false
set_option linter.unusedVariables false
set_option maxRecDepth 100000
set_option maxHeartbeats 400000

def cutN (a b : Nat) (n : GN) : GN := ⟨n.kind, n.num, n.name.take b, (n.keys.map fun x => x.take b).take a, n.l.take a⟩
def cutG (g : List GN) : List GN := (g.map (cutN 12 20)).take 24
/-- While a node is cut: what was cut lies in a slice of one's own, the node in an object. -/
structure CutI (H : Heap) (x : Nat) (cs : List EV) (no nk : Nat) (ko kk : Cap) (G : Heap) (W : List Nat) : Prop where
  grw : Grw H G W
  wrt : ∀ y ∈ W, H.length ≤ y
  hx : H.length ≤ x
  cel : G[x]? = some (.cells cs)
  toks : Own3 G H.length 5 no ko 1 nk kk 1 0 .tight
theorem CutI.lt {H x cs no nk ko kk G W} (h : CutI H x cs no nk ko kk G W) : x < G.length := (List.getElem?_eq_some_iff.1 h.cel).1
theorem CutI.congr {H x cs no nk ko kk G W W'} (h : CutI H x cs no nk ko kk G W) (e : ∀ y, y ∈ W' ↔ y ∈ W) : CutI H x cs no nk ko kk G W' :=
  { h with grw := ⟨h.grw.1, fun y hy hn => h.grw.2 y hy (fun hm => hn ((e y).2 hm))⟩, wrt := fun y hy => h.wrt y ((e y).1 hy) }
theorem app_strsB {G : Heap} {l m : List Str} {k k' : Cap} (hb : l.length + m.length ≤ 1000000) (hk : Own 1 G l.length k) (hm : m ≠ []) : appendE ep.T true G 42 42 (.fz (strs l) k) (.fz (strs m) k') = some (.fz (strs (l ++ m)) (.tok G.length), killH G k ++ [.tip (l.length + m.length)], killW k) := app_strs hm hb hk
theorem CutI.key {H x cs no ko kk G W} {ks : List Str} (h : CutI H x cs no ks.length ko kk G W) (hb : ks.length + 1 ≤ 1000000) (s : Str) :
    ∃ G' k', (∀ kz, appendE ep.T true G 42 42 (.fz (strs ks) kk) (.fz [[.str s]] kz) = some (.fz (strs (ks ++ [s])) k', G', killW kk)) ∧ G'[x]? = some (.cells cs) ∧ aliveE G (killW kk) ∧ ∀ cs', CutI H x cs' no (ks ++ [s]).length ko k' (G'.set x (.cells cs')) (W ++ (killW kk ++ [x])) := by
  have hk := h.toks.o2
  have hlt := h.lt
  have hgl := h.grw.1
  have hT := h.toks.rot.push (by omega) (ks.length + 1)
  rw [Nat.mul_one] at hT
  have hcel := kill_cells (x := EO.tip (ks.length + 1)) hk h.cel
  refine ⟨_, _, fun kz => app_strsB (m := [s]) (by simpa using hb) hk (by simp), hcel, ?_, fun cs' => ⟨⟨by simp [killH_length]; omega, fun y hy hn => ?_⟩, fun y hy => ?_, h.hx, ?_, ?_⟩⟩
  · cases kk with
    | tok o =>
      simp only [Own] at hk
      simp [aliveE, deadAt, hk]
    | _ => trivial
  · have hyx : ¬ x = y := fun e => hn (by simp [e])
    rw [List.getElem?_set, if_neg hyx, List.getElem?_append_left (by rw [killH_length]; omega), killH_get (fun e => hn (by rw [e]; simp))]
    exact h.grw.2 y hy (fun e => hn (List.mem_append_left _ e))
  · rcases List.mem_append.1 hy with hy | hy
    · exact h.wrt y hy
    rcases List.mem_append.1 hy with hy | hy
    · cases kk with
      | tok a => simp at hy; rw [hy]; exact h.toks.b2 a rfl
      | _ => simp [killW] at hy
    · rw [List.mem_singleton] at hy
      rw [hy]; exact h.hx
  · rw [List.getElem?_set, if_pos rfl, if_pos (by simp [killH_length]; omega)]
  · have := hT.rot.rot.keep (tips_set (x := EO.cells cs') hcel)
    simpa using this
theorem min12 (n : Nat) : (if (12 : Int) < (n : Int) then (12 : Int) else (n : Int)) = ((min n 12 : Nat) : Int) := by
  by_cases h : (12 : Int) < n
  · rw [if_pos h]; omega
  · rw [if_neg h]; omega
theorem min20 (n : Nat) : (if (20 : Int) < (n : Int) then (20 : Int) else (n : Int)) = ((min n 20 : Nat) : Int) := by
  by_cases h : (20 : Int) < n
  · rw [if_pos h]; omega
  · rw [if_neg h]; omega
theorem take_min {α : Type} (l : List α) (n : Nat) : l.take (min l.length n) = l.take n := by
  rcases Nat.le_total l.length n with h | h
  · rw [Nat.min_eq_left h, List.take_of_length_le h, List.take_of_length_le (Nat.le_refl _)]
  · rw [Nat.min_eq_right h]
theorem cut_ok (g : List GN) (k : Cap) (H : Heap) (hg : g.length < 2 ^ 62) (hn : ∀ n ∈ g, n.name.length < 2 ^ 62 ∧ n.l.length < 2 ^ 62 ∧ n.keys.length < 2 ^ 62 ∧ ∀ s ∈ n.keys, s.length < 2 ^ 62) : CallR ep dQ 8 [.fz (nodes g) k] H (.fz (nodes (cutG g)) .no) H [] := by
  refine CallW.is (CallW.body rfl fn_8 (by unfold Tryd.f8; rfl) (by rfl) (by unfold Tryd.f8; simp) ?_)
  unfold Tryd.f8
  simp (config := { contextual := true, maxSteps := 1000000 }) [-Int.not_le, -Int.not_lt, -Nat.not_le, -Nat.not_lt]
  refine LoopI.inv (fun s : Nat × Cap × Heap => [(0, .fz (nodes g) k), (3, .fz (nodes ((g.map (cutN 12 20)).take s.1)) s.2.1), (4, .int .i64 s.1)]) (fun s => s.2.2)
    (fun s W => s.1 ≤ g.length ∧ s.1 ≤ 24 ∧ Grw H s.2.2 W ∧ (∀ y ∈ W, H.length ≤ y) ∧ Own 5 s.2.2 s.1 s.2.1 ∧ ∀ a, s.2.1 = .tok a → H.length ≤ a) (fun s => g.length - s.1) (0, .tight, H) (by simp; exact .refl) ?_
  rintro ⟨i, ko, G⟩ W ⟨hi, hi24, hgr, hwr, hown, hko⟩
  dsimp only at hi hi24 hgr hwr hown hko
  have hw := wrap_succ (i := i) (by omega)
  by_cases hi' : i < g.length ∧ i < 24
  · obtain ⟨hi1, hi2⟩ := hi'
    have hi3 : (i : Int) < 24 := by omega
    obtain ⟨hn1, hn2, hn3, hn4⟩ := hn _ (List.getElem_mem hi1)
    simp (config := { contextual := true, maxSteps := 1000000 }) [-Int.not_le, -Int.not_lt, -Nat.not_le, -Nat.not_lt, hi1, hi2, hi3, hw]
    refine ⟨by kernel_rfl, draw2R_of [.p true, .p true, .p true, .p true, .p true, .p true, .p true, .p true, .p true, .p true, .p true, .p true, .p true, .p true, .p true, .p true, .p true, .p true, .p true, .p true, .p true, .p true, .p true, .p true, .p true, .p true, .p true, .p true, .p true, .p true, .p true, .p true, .p true, .p true, .p true, .p true, .c true [0], .p true, .b 0, .a []] [.cells [(.int .i64 0), (.int .i64 0), (.str []), (.fz [] .tight), (.fz [] .tight)]] (by kernel_rfl) (by kernel_rfl) [G.length] ?_⟩
    have hci := fun (G' : Heap) k => (copyInts_ok (g[i].l.take 12) k G' (by simp; omega)).val
    have hst : CutI H G.length [.int .i64 g[i].kind, .int .i64 g[i].num, .str (g[i].name.take 20), .fz [] .tight, .fz (ints (g[i].l.take 12)) .no] i 0 ko .tight (G ++ [EO.cells [.int .i64 g[i].kind, .int .i64 g[i].num, .str (g[i].name.take 20), .fz [] .tight, .fz (ints (g[i].l.take 12)) .no]]) (W ++ [G.length]) := by
      have hgl := hgr.1
      refine ⟨⟨by simp; omega, fun y hy hn => ?_⟩, fun y hy => ?_, hgl, by simp, ⟨hown.keep tips_app, trivial, trivial, fun a e f => (by cases f), fun a e f => (by cases f), fun a e f => (by cases f), hko, fun a e => (by cases e), fun a e => (by cases e)⟩⟩
      · rw [List.getElem?_append_left (by omega)]
        exact hgr.2 y hy (fun e => hn (List.mem_append_left _ e))
      · rcases List.mem_append.1 hy with hy | hy
        · exact hwr y hy
        · rw [List.mem_singleton] at hy; omega
    simp (config := { contextual := true, maxSteps := 1000000 }) [-Int.not_le, -Int.not_lt, -Nat.not_le, -Nat.not_lt, hi1, min12, min20, take_min, hci, Nat.min_le_left]
    refine LoopI.inv (fun s : Nat × Cap × Heap => [(0, .fz (nodes g) k), (3, .fz (nodes ((g.map (cutN 12 20)).take i)) ko), (4, .int .i64 i), (5, .ptr G.length 0), (6, .int .i64 s.1)]) (fun s => s.2.2)
      (fun s W' => s.1 ≤ g[i].keys.length ∧ s.1 ≤ 12 ∧ CutI H G.length [.int .i64 g[i].kind, .int .i64 g[i].num, .str (g[i].name.take 20), .fz (strs ((g[i].keys.map fun x => x.take 20).take s.1)) s.2.1, .fz (ints (g[i].l.take 12)) .no] i s.1 ko s.2.1 s.2.2 (W ++ (W' ++ [G.length]))) (fun s => g[i].keys.length - s.1) (0, .tight, G ++ [EO.cells [.int .i64 g[i].kind, .int .i64 g[i].num, .str (g[i].name.take 20), .fz [] .tight, .fz (ints (g[i].l.take 12)) .no]]) (by simp; exact hst) ?_
    rintro ⟨q, kk, G2⟩ W2 ⟨hq, hq12, hC⟩
    dsimp only at hq hq12 hC
    have hw2 := wrap_succ (i := q) (by omega)
    have hcl := hC.cel
    have hlt := hC.lt
    by_cases hq' : q < g[i].keys.length ∧ q < 12
    · obtain ⟨hq1, hq2⟩ := hq'
      have hq3 : (q : Int) < 12 := by omega
      have hkl : ((g[i].keys.map fun x => x.take 20).take q).length = q := by simp; omega
      have hC' : CutI H G.length [.int .i64 g[i].kind, .int .i64 g[i].num, .str (g[i].name.take 20), .fz (strs ((g[i].keys.map fun x => x.take 20).take q)) kk, .fz (ints (g[i].l.take 12)) .no] i ((g[i].keys.map fun x => x.take 20).take q).length ko kk G2 (W ++ (W2 ++ [G.length])) := by rw [hkl]; exact hC
      obtain ⟨G3, k3, hap, hc3, hkw, hC3⟩ := hC'.key (by omega) (g[i].keys[q].take 20)
      have hh := hn4 _ (List.getElem_mem hq1)
      simp (config := { contextual := true, maxSteps := 1000000 }) [-Int.not_le, -Int.not_lt, -Nat.not_le, -Nat.not_lt, hi1, hq1, hq2, hq3, hw2]
      refine ⟨by kernel_rfl, draw2R_of [.p false, .p true, .p false, .p false, .p false, .p false, .p false, .p false, .p false, .p false, .p false, .p false, .p false, .p false, .p false, .p false, .p false, .p false, .p false, .p false, .p false, .p true, .a [], .p false, .a []] [] (by kernel_rfl) (by kernel_rfl) (G.length :: killW kk) ?_⟩
      simp (config := { contextual := true, maxSteps := 1000000 }) [-Int.not_le, -Int.not_lt, -Nat.not_le, -Nat.not_lt, hi1, hq1, ↓hcl, min20, take_min, Nat.min_le_left, hap, ↓hc3, hlt]
      refine ⟨hkw, inE_iff.2 fun y hy => ?_, q + 1, by omega, k3, _, ⟨by omega, by omega, ?_⟩, rfl, by simp [hw2]⟩
      · simp at hy ⊢
        exact hy.symm
      · have h1 := hC3 [.int .i64 g[i].kind, .int .i64 g[i].num, .str (g[i].name.take 20), .fz (strs ((g[i].keys.map fun x => x.take 20).take q ++ [g[i].keys[q].take 20])) k3, .fz (ints (g[i].l.take 12)) .no]
        have h2 : (g[i].keys.map fun x => x.take 20).take (q + 1) = (g[i].keys.map fun x => x.take 20).take q ++ [g[i].keys[q].take 20] := by
          rw [List.take_add_one, List.getElem?_eq_getElem (by simpa using hq1)]
          simp
        rw [h2]
        have h3 : ((g[i].keys.map fun x => x.take 20).take q ++ [g[i].keys[q].take 20]).length = q + 1 := by simp; omega
        rw [h3] at h1
        exact h1.congr fun y => by simp [or_assoc, or_comm, or_left_comm]
    · have hkk : (g[i].keys.map fun x => x.take 20).take q = (g[i].keys.map fun x => x.take 20).take 12 := by
        by_cases h12 : q < 12
        · have : q = g[i].keys.length := by omega
          rw [this, List.take_of_length_le (by simp), List.take_of_length_le (by simp; omega)]
        · rw [show q = 12 by omega]
      have hq3 : ¬ (q < g[i].keys.length ∧ (q : Int) < 12) := by omega
      have hgl := hgr.1
      have hap := fun k' => app_node (G := G2) (l := (g.map (cutN 12 20)).take i) (a := g[i].kind) (b := g[i].num) (c := g[i].name.take 20) (d := (g[i].keys.map fun x => x.take 20).take q) (e := g[i].l.take 12) (k := ko) (k' := k') (kd := .no) (ke := .no) (by simp; omega) (by simpa [Nat.min_eq_left hi] using hC.toks.o1)
      simp (config := { contextual := true, maxSteps := 1000000 }) [-Int.not_le, -Int.not_lt, -Nat.not_le, -Nat.not_lt, hi1, hq3, ↓hcl, hap, hw]
      have htk : (g.map (cutN 12 20)).take (i + 1) = (g.map (cutN 12 20)).take i ++ [⟨g[i].kind, g[i].num, g[i].name.take 20, (g[i].keys.map fun x => x.take 20).take q, g[i].l.take 12⟩] := by
        rw [List.take_add_one, List.getElem?_eq_getElem (by simpa using hi1), hkk]
        simp [cutN]
      have hko2 : ∀ y ∈ killW ko, H.length ≤ y := fun y hy => by
        cases ko with
        | tok a => simp at hy; rw [hy]; exact hko a rfl
        | _ => simp [killW] at hy
      have hC2 : ∀ y, (y ∈ W ∨ y = G.length ∨ y ∈ W2) → H.length ≤ y := fun y hy => hC.wrt y (by simp; rcases hy with h | h | h; exact .inl h; exact .inr (.inr h); exact .inr (.inl h))
      refine ⟨i + 1, by omega, .tok G2.length, _, ⟨by omega, by omega, ?_, ?_, ?_, ?_⟩, rfl, ⟨by rw [htk], rfl⟩, by simp⟩
      · have h1 := hC.grw.trans (kill_grw (G := G2) (ka := ko) (x := .tip ((min i g.length + 1) * 5)))
        exact ⟨h1.1, fun y hy hn => h1.2 y hy (fun e => hn (by simp at e ⊢; rcases e with e | e | e | e; exact .inl e; exact .inr (.inr (.inl e)); exact .inr (.inl e); exact .inr (.inr (.inr e))))⟩
      · rintro y (hy | hy | hy | hy)
        · exact hC2 y (.inl hy)
        · exact hC2 y (.inr (.inl hy))
        · exact hC2 y (.inr (.inr hy))
        · exact hko2 y hy
      · simp [Own, killH_length, Nat.min_eq_left hi]
      · intro a e
        injection e with e
        have := hC.grw.1
        omega
  · have hi3 : ¬ (i < g.length ∧ (i : Int) < 24) := by omega
    have hz := frzT_far (H := G) (base := H.length) (es := nodes ((g.map (cutN 12 20)).take i)) (k := ko) hko
    have htk : (g.map (cutN 12 20)).take i = cutG g := by
      unfold cutG
      by_cases h24 : i < 24
      · have : i = g.length := by omega
        rw [this, List.take_of_length_le (by simp), List.take_of_length_le (by simp; omega)]
      · rw [show i = 24 by omega]
    rw [htk] at hz
    simp (config := { contextual := true, maxSteps := 1000000 }) [-Int.not_le, -Int.not_lt, -Nat.not_le, -Nat.not_lt, hi3, hw, hf1 hwr, hz, htk]
end Go.Ev
end

/- What the law's helpers compute. -/
section
namespace Go.Ev
open Go Go.Proofs
set_option linter.unusedSimpArgs false
set_option linter.unusedVariables false
set_option maxRecDepth 100000
set_option maxHeartbeats 400000

theorem cut_fair (g : List GN) : Fair (cutG g) := by
  unfold cutG
  refine ⟨by simp; omega, fun n hn => ?_⟩
  have := List.mem_of_mem_take hn
  obtain ⟨x, _, rfl⟩ := List.mem_map.1 this
  simp [cutN]
  omega
def smallG : List GN := [⟨4, 0, [], [], []⟩, ⟨2, 0, [], [], []⟩, ⟨7, 0, [], [[97]], [0]⟩, ⟨8, 0, [], [], [0, 1]⟩, ⟨1, 0, [], [], []⟩, ⟨5, 0, [120], [], []⟩, ⟨7, 0, [], [[97]], [5]⟩, ⟨8, 0, [], [], [2, 6]⟩, ⟨9, 0, [], [], [3]⟩]
theorem small_enc : nodes smallG = [[.int .i64 4, .int .i64 0, .str [], .fz [] .no, .fz [] .no], [.int .i64 2, .int .i64 0, .str [], .fz [] .no, .fz [] .no], [.int .i64 7, .int .i64 0, .str [], .fz [[.str [97]]] .no, .fz [[.int .i64 0]] .no], [.int .i64 8, .int .i64 0, .str [], .fz [] .no, .fz [[.int .i64 0], [.int .i64 1]] .no], [.int .i64 1, .int .i64 0, .str [], .fz [] .no, .fz [] .no], [.int .i64 5, .int .i64 0, .str [120], .fz [] .no, .fz [] .no], [.int .i64 7, .int .i64 0, .str [], .fz [[.str [97]]] .no, .fz [[.int .i64 5]] .no], [.int .i64 8, .int .i64 0, .str [], .fz [] .no, .fz [[.int .i64 2], [.int .i64 6]] .no], [.int .i64 9, .int .i64 0, .str [], .fz [] .no, .fz [[.int .i64 3]] .no]] := rfl
theorem small9_ok (H : Heap) : CallR ep dQ 42 [] H (.fz (nodes smallG) .no) H [] := by
  refine CallW.is (CallW.body rfl fn_42 (by unfold Tryd.f42; rfl) (by rfl) (by unfold Tryd.f42; simp) ?_)
  unfold Tryd.f42
  simp (config := { contextual := true, maxSteps := 1000000 }) [-Int.not_le, -Int.not_lt, -Nat.not_le, -Nat.not_lt, small_enc]
def unionB (h : List GN) (at_ a b : Int) : Bool := decide (at_ = (h.length : Int) - 1) && decide (0 ≤ at_) && ((at0 h at_).kind == 8) && ((at0 h at_).l == [a, b])
theorem union_ok (h : List GN) (k : Cap) (n a b : Int) (H : Heap) (hf : Fair h) : CallR ep dQ 43 [.fz (nodes h) k, .int .i64 n, .int .i64 a, .int .i64 b] H (.bool (unionB h n a b)) H [] := by
  have hfl := hf.1
  have hw : IntKind.i64.wrap ((h.length : Int) - 1) = (h.length : Int) - 1 := wrap64 (by omega) (by omega)
  refine CallW.is (CallW.body rfl fn_43 (by unfold Tryd.f43; rfl) (by rfl) (by unfold Tryd.f43; simp) ?_)
  unfold Tryd.f43
  by_cases h1 : n = (h.length : Int) - 1
  · by_cases h2 : 0 ≤ n
    · obtain ⟨i, rfl⟩ : ∃ i : Nat, n = i := ⟨n.toNat, by omega⟩
      have hil : i < h.length := by omega
      have hat := at0_nat hil
      have he := fun G k => (equalInts_ok h[i].l [a, b] .no k (by have := (hf.2 _ (List.getElem_mem hil)).1; omega) G).val
      rw [show ints [a, b] = [[.int .i64 a], [.int .i64 b]] from rfl] at he
      have hl : h.length = i + 1 := by omega
      have hw2 : IntKind.i64.wrap (i : Int) = i := wrap64 (by omega) (by omega)
      have hu : unionB h i a b = ((h[i].kind == 8) && (h[i].l == [a, b])) := by
        simp only [unionB, hat, hl]
        simp
      rw [hu]
      by_cases h3 : h[i].kind = 8
      · simp (config := { contextual := true, maxSteps := 1000000 }) [-Int.not_le, -Int.not_lt, -Nat.not_le, -Nat.not_lt, hw2, hl, he, h3, hil]
      · simp (config := { contextual := true, maxSteps := 1000000 }) [-Int.not_le, -Int.not_lt, -Nat.not_le, -Nat.not_lt, hw2, hl, he, h3, hil]
    · have hu : unionB h n a b = false := by simp [unionB, h2]
      rw [hu]
      have h0 : h = [] := List.length_eq_zero_iff.1 (by omega)
      subst h0
      obtain rfl : n = -1 := by simpa using h1
      clear hw h1 h2
      have hw3 : IntKind.i64.wrap (-1) = -1 := wrap64 (by omega) (by omega)
      simp (config := { contextual := true, maxSteps := 1000000 }) [-Int.not_le, -Int.not_lt, -Nat.not_le, -Nat.not_lt, hw3]
  · have hu : unionB h n a b = false := by simp [unionB, h1]
    rw [hu]
    simp (config := { contextual := true, maxSteps := 1000000 }) [-Int.not_le, -Int.not_lt, -Nat.not_le, -Nat.not_lt, hw, h1]
def grownB (g h : List GN) (n : Int) : Bool := decide (g.length ≤ h.length) && decide (h.take g.length = g) && decide (checkG h = 0) && decide (0 ≤ n) && decide (n < (h.length : Int))
theorem grown_ok (g h : List GN) (k k' : Cap) (n : Int) (H : Heap) (hf : Fair h) (hg : g.length < 2 ^ 62) : CallR ep dQ 27 [.fz (nodes g) k, .fz (nodes h) k', .int .i64 n] H (.bool (grownB g h n)) H [] := by
  have hft : Fair (h.take g.length) := ⟨by have := hf.1; simp; omega, fun x hx => hf.2 x (List.mem_of_mem_take hx)⟩
  have hs := fun G kk => (same_ok (h.take g.length) g kk k G hft).val
  have hc := fun G => (check_ok h k' G hf).val
  refine CallW.is (CallW.body rfl fn_27 (by unfold Tryd.f27; rfl) (by rfl) (by unfold Tryd.f27; simp) ?_)
  unfold Tryd.f27
  by_cases h1 : g.length ≤ h.length
  · simp (config := { contextual := true, maxSteps := 1000000 }) [-Int.not_le, -Int.not_lt, -Nat.not_le, -Nat.not_lt, h1, hs, hc, grownB]
  · simp (config := { contextual := true, maxSteps := 1000000 }) [-Int.not_le, -Int.not_lt, -Nat.not_le, -Nat.not_lt, h1, grownB]
def shapes7 : List Str := [[110, 117, 108, 108], [98, 111, 111, 108], [105, 110, 116], [114, 101, 99], [39, 120], [39, 121], [39, 108, 101, 116]]
theorem shape_ok (n : Int) (H : Heap) : CallR ep dQ 21 [.int .i64 n] H (.str (shapes7.getD (n % 7).toNat [])) H [] := by
  have hb := fun G => (bring_ok n 7 (by omega) (by omega) G).val
  have h0 : 0 ≤ n % 7 := by omega
  have h7 : n % 7 < 7 := by omega
  have hc : n % 7 = 0 ∨ n % 7 = 1 ∨ n % 7 = 2 ∨ n % 7 = 3 ∨ n % 7 = 4 ∨ n % 7 = 5 ∨ n % 7 = 6 := by omega
  refine CallW.is (CallW.body rfl fn_21 (by unfold Tryd.f21; rfl) (by rfl) (by unfold Tryd.f21; simp) ?_)
  unfold Tryd.f21
  rcases hc with e | e | e | e | e | e | e
  all_goals simp (config := { contextual := true, maxSteps := 1000000 }) [-Int.not_le, -Int.not_lt, -Nat.not_le, -Nat.not_lt, hb, h0, e, shapes7]
def fineG (g : List GN) : List GN := if checkG ((cutG g).take 20) = 0 then (cutG g).take 20 else []
theorem fine_ok (g : List GN) (k : Cap) (H : Heap) (hg : g.length < 2 ^ 62) (hn : ∀ n ∈ g, n.name.length < 2 ^ 62 ∧ n.l.length < 2 ^ 62 ∧ n.keys.length < 2 ^ 62 ∧ ∀ s ∈ n.keys, s.length < 2 ^ 62) : CallR ep dQ 19 [.fz (nodes g) k] H (.fz (nodes (fineG g)) .no) H [] := by
  have hc := fun G => (cut_ok g k G hg hn).val
  have hfc := cut_fair g
  have hft : Fair ((cutG g).take 20) := ⟨by have := hfc.1; simp; omega, fun x hx => hfc.2 x (List.mem_of_mem_take hx)⟩
  have hk := fun G kk => (check_ok ((cutG g).take 20) kk G hft).val
  refine CallW.is (CallW.body rfl fn_19 (by unfold Tryd.f19; rfl) (by rfl) (by unfold Tryd.f19; simp) ?_)
  unfold Tryd.f19
  simp (config := { contextual := true, maxSteps := 1000000 }) [-Int.not_le, -Int.not_lt, -Nat.not_le, -Nat.not_lt, hc, hk, min20, take_min, Nat.min_le_left, fineG]
def looseB (g : List GN) (n kind : Int) : Bool := (members g n).any fun m => decide (0 ≤ m) && decide (m < (g.length : Int)) && ((at0 g m).kind == kind)
theorem loose_ok (g : List GN) (k : Cap) (n kind : Int) (H : Heap) (hg : Fair g) : CallR ep dQ 24 [.fz (nodes g) k, .int .i64 n, .int .i64 kind] H (.bool (looseB g n kind)) H [] := by
  have hm := fun G => (members_ok g k n G hg).val
  have hml := members_len hg n
  refine CallW.is (CallW.body rfl fn_24 (by unfold Tryd.f24; rfl) (by rfl) (by unfold Tryd.f24; simp) ?_)
  unfold Tryd.f24
  simp (config := { contextual := true, maxSteps := 1000000 }) [-Int.not_le, -Int.not_lt, -Nat.not_le, -Nat.not_lt, hm]
  refine LoopI.inv (fun i : Nat => [(0, .fz (nodes g) k), (2, .int .i64 kind), (7, .fz (ints (members g n)) .no), (8, .int .i64 i)]) (fun _ => H) (fun i W => W = [] ∧ i ≤ (members g n).length ∧ ∀ (j : Nat) (h : j < (members g n).length), j < i → (decide (0 ≤ (members g n)[j]) && decide ((members g n)[j] < (g.length : Int)) && ((at0 g (members g n)[j]).kind == kind)) = false) (fun i => (members g n).length - i) 0 (by simp) ?_
  rintro i W ⟨rfl, hi, hj⟩
  have hw := wrap_succ (i := i) (by omega)
  by_cases hi' : i < (members g n).length
  · have hyes : ∀ b, (decide (0 ≤ (members g n)[i]) && decide ((members g n)[i] < (g.length : Int)) && ((at0 g (members g n)[i]).kind == kind)) = b → b = true → looseB g n kind = true := fun b h e => List.any_eq_true.2 ⟨_, List.getElem_mem hi', by rw [h, e]⟩
    have hno : (decide (0 ≤ (members g n)[i]) && decide ((members g n)[i] < (g.length : Int)) && ((at0 g (members g n)[i]).kind == kind)) = false → ∀ (j : Nat) (h : j < (members g n).length), j < i + 1 → (decide (0 ≤ (members g n)[j]) && decide ((members g n)[j] < (g.length : Int)) && ((at0 g (members g n)[j]).kind == kind)) = false := fun h j hjl hji => by
      rcases Nat.lt_or_eq_of_le (Nat.le_of_lt_succ hji) with h2 | h2
      · exact hj j hjl h2
      · subst h2; exact h
    by_cases h0 : 0 ≤ (members g n)[i]
    · by_cases h1 : (members g n)[i] < (g.length : Int)
      · have h2 : (members g n)[i].toNat < g.length := by omega
        have hat : at0 g (members g n)[i] = g[(members g n)[i].toNat] := by unfold at0; simp [h2]
        by_cases h3 : g[(members g n)[i].toNat].kind = kind
        · have := hyes _ rfl (by simp [h0, h1, hat, h3])
          simp (config := { contextual := true, maxSteps := 1000000 }) [-Int.not_le, -Int.not_lt, -Nat.not_le, -Nat.not_lt, hi', hw, h0, h1, h2, h3, this]
        · simp (config := { contextual := true, maxSteps := 1000000 }) [-Int.not_le, -Int.not_lt, -Nat.not_le, -Nat.not_lt, hi', hw, h0, h1, h2, h3]
          exact ⟨i + 1, by omega, ⟨by omega, by simpa using hno (by simp [hat, h3])⟩, by simp⟩
      · simp (config := { contextual := true, maxSteps := 1000000 }) [-Int.not_le, -Int.not_lt, -Nat.not_le, -Nat.not_lt, hi', hw, h0, h1]
        exact ⟨i + 1, by omega, ⟨by omega, by simpa using hno (by simp [h1])⟩, by simp⟩
    · simp (config := { contextual := true, maxSteps := 1000000 }) [-Int.not_le, -Int.not_lt, -Nat.not_le, -Nat.not_lt, hi', hw, h0]
      exact ⟨i + 1, by omega, ⟨by omega, by simpa using hno (by simp [h0])⟩, by simp⟩
  · simp (config := { contextual := true, maxSteps := 1000000 }) [-Int.not_le, -Int.not_lt, -Nat.not_le, -Nat.not_lt, hi', hw]
    unfold looseB
    exact List.any_eq_false.2 fun x hx => by
      obtain ⟨j, hjl, rfl⟩ := List.mem_iff_getElem.1 hx
      have := hj j hjl (by omega)
      simpa using this
end Go.Ev
end

/- The chapter's examples. -/
section
namespace Go.Ev
open Go Go.Proofs
set_option linter.unusedSimpArgs false
set_option linter.unusedVariables false
set_option maxRecDepth 100000
set_option maxHeartbeats 1000000

theorem narG_ok {g : List GN} (hg : Fair g) (hc : checkG g = 0) {key : Str} {sh : GN} {one : Int → BB} (hsh : sh.keys = [] ∧ sh.l = []) (n : Int) : Fair (narG g key sh one n).1 ∧ Inn (narG g key sh one n).1 ∧ (narG g key sh one n).1.length ≤ 4000 ∧ g.length ≤ (narG g key sh one n).1.length := by
  have h1 := (check_ok0 hc).1
  have h2 := members_small hc n
  have hfi := foldN_ok (g := g) (key := key) (one := one) hsh (l := members g n) (s := (g, [], [])) hg (inn_of hc) (by simp; omega)
  have hln := foldN_len (g := g) (key := key) (sh := sh) (one := one) (l := members g n) (s := (g, [], []))
  refine ⟨hfi.1, hfi.2, ?_, ?_⟩
  · have := hln.1
    simp only [narG, foldN] at this ⊢
    omega
  · have : ∀ (l : List Int) (s : List GN × List Int × List Int), s.1.length ≤ (l.foldl (stepN g key sh one) s).1.length := by
      intro l
      induction l with
      | nil => intro s; exact Nat.le_refl _
      | cons m l ih =>
        intro s
        rw [List.foldl_cons]
        refine Nat.le_trans ?_ (ih _)
        unfold stepN
        split
        · split <;> simp
        · simp
    exact this (members g n) (g, [], [])
theorem narH_ok {g : List GN} (hg : Fair g) (hc : checkG g = 0) {key : Str} {sh : GN} {one : Int → BB} (hsh : sh.keys = [] ∧ sh.l = []) (n : Int) : Fair (narH g key sh one n) ∧ Inn (narH g key sh one n) ∧ g.length ≤ (narH g key sh one n).length := by
  obtain ⟨h1, h2, h3, h4⟩ := narG_ok hg hc (key := key) (one := one) hsh n
  have hl1 := left_len (h := (narG g key sh one n).1) (n := n) (l := (narG g key sh one n).2.1)
  have hf3 := fair_left h1 h2 (by omega) n (narG g key sh one n).2.1
  have hi3 := h2.left n (narG g key sh one n).2.1
  have hl2 := left_len (h := leftG (narG g key sh one n).1 n (narG g key sh one n).2.1) (n := n) (l := (narG g key sh one n).2.2)
  exact ⟨fair_left hf3 hi3 (by omega) n _, hi3.left n _, by unfold narH; omega⟩
def narrowsB (g : List GN) (n : Int) (s : Str) (a b c : Int) : Bool := decide (nshE g n s = 0) && decide (narY g [] (shapeN s) (oneS g s) n = a) && decide (narN g [] (shapeN s) (oneS g s) n = b) && decide (((narH g [] (shapeN s) (oneS g s) n).length : Int) = c) && decide ((narH g [] (shapeN s) (oneS g s) n).take g.length = g)
theorem narrows_ok (g : List GN) (k : Cap) (n : Int) (s : Str) (a b c : Int) (H : Heap) (hg : Fair g) : CallR ep dQ 44 [.fz (nodes g) k, .int .i64 n, .str s, .agg [.int .i64 a, .int .i64 b, .int .i64 c]] H (.bool (narrowsB g n s a b c)) H [] := by
  have hgl := hg.1
  have hn := fun G => (narrow_ok g k n s G hg).val
  by_cases h0 : nshE g n s = 0
  · have hc : checkG g = 0 := by
      by_cases h2 : checkG g = 0
      · exact h2
      · simp [nshE, nrwE, placesG, h2] at h0
    obtain ⟨hf, _, hlen⟩ := narH_ok hg hc (key := []) (one := oneS g s) (shapeN_bare s) n
    have hft : Fair ((narH g [] (shapeN s) (oneS g s) n).take g.length) := ⟨by simp; omega, fun x hx => hf.2 x (List.mem_of_mem_take hx)⟩
    have hs := fun G kk => (same_ok ((narH g [] (shapeN s) (oneS g s) n).take g.length) g kk k G hft).val
    have hmin : (if g.length < (narH g [] (shapeN s) (oneS g s) n).length then (g.length : Int) else ((narH g [] (shapeN s) (oneS g s) n).length : Int)) = (g.length : Int) := by
      split
      · rfl
      · omega
    have e1 : (if nshE g n s = 0 then narH g [] (shapeN s) (oneS g s) n else []) = narH g [] (shapeN s) (oneS g s) n := if_pos h0
    have e2 : (if nshE g n s = 0 then narY g [] (shapeN s) (oneS g s) n else 0) = narY g [] (shapeN s) (oneS g s) n := if_pos h0
    have e3 : (if nshE g n s = 0 then narN g [] (shapeN s) (oneS g s) n else 0) = narN g [] (shapeN s) (oneS g s) n := if_pos h0
    unfold nrwV at hn
    rw [e1, e2, e3, h0] at hn
    by_cases hcl : ((narH g [] (shapeN s) (oneS g s) n).length : Int) = c
    · subst hcl
      have hB : narrowsB g n s a b ((narH g [] (shapeN s) (oneS g s) n).length : Int) = (decide (narY g [] (shapeN s) (oneS g s) n = a) && decide (narN g [] (shapeN s) (oneS g s) n = b) && decide ((narH g [] (shapeN s) (oneS g s) n).take g.length = g)) := by simp [narrowsB, h0]
      rw [hB]
      generalize narH g [] (shapeN s) (oneS g s) n = h at *
      refine CallW.is (CallW.body rfl fn_44 (by unfold Tryd.f44; rfl) (by rfl) (by unfold Tryd.f44; simp) ?_)
      unfold Tryd.f44
      simp (config := { contextual := true, maxSteps := 1000000 }) [-Int.not_le, -Int.not_lt, -Nat.not_le, -Nat.not_lt, hn, h0, hs, hmin, hlen]
    · have hB : narrowsB g n s a b c = false := by simp [narrowsB, hcl]
      rw [hB]
      generalize narH g [] (shapeN s) (oneS g s) n = h at *
      refine CallW.is (CallW.body rfl fn_44 (by unfold Tryd.f44; rfl) (by rfl) (by unfold Tryd.f44; simp) ?_)
      unfold Tryd.f44
      simp (config := { contextual := true, maxSteps := 1000000 }) [-Int.not_le, -Int.not_lt, -Nat.not_le, -Nat.not_lt, hn, h0, hs, hmin, hlen, hcl]
  · unfold nrwV at hn
    simp only [if_neg h0] at hn
    have hf : narrowsB g n s a b c = false := by simp [narrowsB, h0]
    rw [hf]
    refine CallW.is (CallW.body rfl fn_44 (by unfold Tryd.f44; rfl) (by rfl) (by unfold Tryd.f44; simp) ?_)
    unfold Tryd.f44
    simp (config := { contextual := true, maxSteps := 1000000 }) [-Int.not_le, -Int.not_lt, -Nat.not_le, -Nat.not_lt, hn, h0]

theorem small_fair : Fair smallG := by
  refine ⟨by decide, fun n hn => ?_⟩
  simp only [smallG, List.mem_cons, List.not_mem_nil, or_false] at hn
  rcases hn with rfl | rfl | rfl | rfl | rfl | rfl | rfl | rfl | rfl <;> simp
theorem small_n0 : narrowsB smallG 3 [105, 110, 116] 0 1 9 = true := by kernel_rfl
theorem small_n1 : narrowsB smallG 4 [39, 120] 9 4 10 = true := by kernel_rfl
theorem small_n2 : narrowsB smallG 4 [114, 101, 99] 4 4 9 = true := by kernel_rfl
theorem small_n3 : narrowsB smallG 8 [105, 110, 116] 8 8 9 = true := by kernel_rfl
theorem small_n4 : narrowsB smallG 8 [114, 101, 99] (-1) 8 9 = true := by kernel_rfl
theorem works_ok (H : Heap) : CallR ep dQ 18 [] H (.bool true) H [] := by
  have hs := fun G => (small9_ok G).val
  have ha := fun G k => (of_ok smallG [1, 0, 1] .no k G small_fair (by decide)).val
  have hb := fun G k => (of_ok smallG [0] .no k G small_fair (by decide)).val
  have hc := fun G k => (of_ok smallG [] .no k G small_fair (by decide)).val
  rw [show ofE smallG [1, 0, 1] = 0 by kernel_rfl] at ha
  rw [show ofE smallG [0] = 0 by kernel_rfl] at hb
  rw [show ofE smallG [] = 2 by kernel_rfl] at hc
  simp only [if_true, show joinedN smallG [1, 0, 1] = 9 by kernel_rfl, show ints [1, 0, 1] = [[.int .i64 1], [.int .i64 0], [.int .i64 1]] from rfl] at ha
  simp only [if_true, show joinedN smallG [0] = 0 by kernel_rfl, show joinedG smallG [0] = smallG by kernel_rfl, show ints [0] = [[.int .i64 0]] from rfl] at hb
  simp only [show ¬ (2 : Int) = 0 by decide, if_false, ints_nil, nodes_nil] at hc
  have hfa : Fair (joinedG smallG [1, 0, 1]) := fair_joined small_fair (inn_of (by kernel_rfl)) (by decide) _
  have hua := fun G k => (union_ok (joinedG smallG [1, 0, 1]) k 9 1 0 G hfa).val
  rw [show unionB (joinedG smallG [1, 0, 1]) 9 1 0 = true by kernel_rfl] at hua
  have hl9 : smallG.length = 9 := rfl
  have hn0 := fun G => (narrows_ok smallG .no 3 [105, 110, 116] 0 1 9 G small_fair).val
  rw [small_n0] at hn0
  have hn1 := fun G => (narrows_ok smallG .no 4 [39, 120] 9 4 10 G small_fair).val
  rw [small_n1] at hn1
  have hn2 := fun G => (narrows_ok smallG .no 4 [114, 101, 99] 4 4 9 G small_fair).val
  rw [small_n2] at hn2
  have hn3 := fun G => (narrows_ok smallG .no 8 [105, 110, 116] 8 8 9 G small_fair).val
  rw [small_n3] at hn3
  have hn4 := fun G => (narrows_ok smallG .no 8 [114, 101, 99] (-1) 8 9 G small_fair).val
  rw [small_n4] at hn4
  have hx := fun G => (narrow_ok smallG .no 0 [120] G small_fair).val
  rw [show nshE smallG 0 [120] = 2 by kernel_rfl] at hx
  have hk1 := fun G => (narrowBy_ok smallG .no 7 [97] [39, 120] G small_fair).val
  rw [show nkyE smallG 7 [97] [39, 120] = 0 by kernel_rfl, show narY smallG [97] (shapeN [39, 120]) (oneK smallG [97] [39, 120]) 7 = 6 by kernel_rfl, show narN smallG [97] (shapeN [39, 120]) (oneK smallG [97] [39, 120]) 7 = 2 by kernel_rfl] at hk1
  have hk2 := fun G => (narrowBy_ok smallG .no 2 [98] [105, 110, 116] G small_fair).val
  rw [show nkyE smallG 2 [98] [105, 110, 116] = 0 by kernel_rfl, show narY smallG [98] (shapeN [105, 110, 116]) (oneK smallG [98] [105, 110, 116]) 2 = -1 by kernel_rfl, show narN smallG [98] (shapeN [105, 110, 116]) (oneK smallG [98] [105, 110, 116]) 2 = 2 by kernel_rfl] at hk2
  have hf1 := fun G => (joinField_ok smallG .no 7 [97] G small_fair (fun _ => fldB_plain (by decide) (by decide))).val
  rw [show fieldE0 smallG 7 [97] = 0 by kernel_rfl, show fieldL smallG 7 [97] = [0, 5] by kernel_rfl] at hf1
  simp only [if_true, show joinedN smallG [0, 5] = 9 by kernel_rfl] at hf1
  have hff : Fair (joinedG smallG [0, 5]) := fair_joined small_fair (inn_of (by kernel_rfl)) (by decide) _
  have hub := fun G k => (union_ok (joinedG smallG [0, 5]) k 9 0 5 G hff).val
  rw [show unionB (joinedG smallG [0, 5]) 9 0 5 = true by kernel_rfl] at hub
  have hf2 := fun G => (joinField_ok smallG .no 3 [97] G small_fair (fun _ => fldB_plain (by decide) (by decide))).val
  rw [show fieldE0 smallG 3 [97] = 160 by kernel_rfl] at hf2
  simp only [nrwV] at hx hk1 hk2
  simp only [show ¬ (2 : Int) = 0 by decide, show ¬ (160 : Int) = 0 by decide, if_true, if_false] at hx hk1 hk2 hf2
  refine CallW.is (CallW.body rfl fn_18 (by unfold Tryd.f18; rfl) (by rfl) (by unfold Tryd.f18; simp) ?_)
  unfold Tryd.f18
  simp (config := { contextual := true, maxSteps := 1000000 }) [-Int.not_le, -Int.not_lt, -Nat.not_le, -Nat.not_lt, hs, ha, hb, hc, hua, hl9, hn0, hn1, hn2, hn3, hn4, hx, hk1, hk2, hf1, hub, hf2]
end Go.Ev
end
