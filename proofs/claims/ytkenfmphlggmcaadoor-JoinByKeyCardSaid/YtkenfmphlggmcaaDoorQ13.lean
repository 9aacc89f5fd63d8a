/- What joins compute. -/
import Derived.Test.YtkenfmphlggmcaaDoorQ12

section
namespace Go.Ev
open Go Go.Proofs
set_option linter.unusedSimpArgs false
set_option linter.unusedVariables false
set_option maxRecDepth 100000
set_option maxHeartbeats 4000000

theorem app_nodes {G : Heap} {l m : List GN} {k k' : Cap} (hm : m ≠ []) (hb : l.length + m.length ≤ 2000000) (hk : Own 5 G l.length k) :
    appendE ep.T true G 22 22 (.fz (nodes l) k) (.fz (nodes m) k') = some (.fz (nodes (l ++ m)) (.tok G.length), killH G k ++ [.tip ((l.length + m.length) * 5)], killW k) := by
  have := append_own (T := ep.T) (st := 22) (xt := 22) (z := 5) (G := G) (es := nodes l) (xs := nodes m) (ys := nodes m) (k := k) (k' := k') ⟨_, _, _, _, _, ty_22⟩ ⟨_, _, _, _, _, ty_22⟩ ty_44 rfl (by cases m with | nil => exact absurd rfl hm | cons a m => simp [nodes]) nodes_rows nodes_ones nodes_still nodes_rows (by simp; omega) (by simpa using hk)
  simpa using this
theorem app_node {G : Heap} {l : List GN} {k k' kd ke : Cap} {a b : Int} {c : Str} {d : List Str} {e : List Int} (hb : l.length + 1 ≤ 2000000) (hk : Own 5 G l.length k) :
    appendE ep.T true G 22 22 (.fz (nodes l) k) (.fz [[.int .i64 a, .int .i64 b, .str c, .fz (strs d) kd, .fz (ints e) ke]] k') = some (.fz (nodes (l ++ [⟨a, b, c, d, e⟩])) (.tok G.length), killH G k ++ [.tip ((l.length + 1) * 5)], killW k) := by
  have := append_own (T := ep.T) (st := 22) (xt := 22) (z := 5) (G := G) (es := nodes l) (xs := [[.int .i64 a, .int .i64 b, .str c, .fz (strs d) kd, .fz (ints e) ke]]) (ys := nodes [⟨a, b, c, d, e⟩]) (k := k) (k' := k') ⟨_, _, _, _, _, ty_22⟩ ⟨_, _, _, _, _, ty_22⟩ ty_44 rfl (by simp) (by simp [rowsOk]) rfl rfl nodes_rows (by simp; omega) (by simpa using hk)
  simpa using this
/-- One more, if it is not there. -/
def addNew (a : List Int) (m : Int) : List Int := if a.contains m then a else a ++ [m]
/-- All that some places are of. -/
def allOf (g : List GN) (l : List Int) : List Int := l.foldl (fun a n => (members g n).foldl addNew a) []
theorem addNew_nodup {a : List Int} {m : Int} (h : a.Nodup) : (addNew a m).Nodup := by
  unfold addNew
  split
  · exact h
  · rename_i hm
    rw [List.nodup_append]
    refine ⟨h, by simp, fun x hx y hy => ?_⟩
    simp at hy
    subst hy
    intro e
    subst e
    exact hm (by simpa using hx)
theorem addNew_mem {a : List Int} {m x : Int} : x ∈ addNew a m ↔ x ∈ a ∨ x = m := by
  unfold addNew
  split
  · rename_i hm
    constructor
    · exact .inl
    · rintro (h | rfl)
      · exact h
      · simpa using hm
  · simp
theorem addAll_nodup : ∀ {l a : List Int}, a.Nodup → (l.foldl addNew a).Nodup
  | [], _, h => h
  | _ :: l, _, h => addAll_nodup (l := l) (addNew_nodup h)
theorem addAll_mem {x : Int} : ∀ {l a : List Int}, x ∈ l.foldl addNew a ↔ x ∈ a ∨ x ∈ l
  | [], a => by simp
  | m :: l, a => by
    rw [List.foldl_cons, addAll_mem, addNew_mem]
    simp [or_assoc]
theorem nodup_len {α : Type} [BEq α] [LawfulBEq α] : ∀ {a b : List α}, a.Nodup → (∀ x ∈ a, x ∈ b) → a.length ≤ b.length
  | [], _, _, _ => Nat.zero_le _
  | x :: a, b, h, hs => by
    rw [List.nodup_cons] at h
    have hx := hs x (by simp)
    have := nodup_len (a := a) (b := b.erase x) h.2 (fun y hy => by
      rw [List.mem_erase_of_ne (fun e => h.1 (by rw [← e]; exact hy))]
      exact hs y (by simp [hy]))
    rw [List.length_erase_of_mem hx] at this
    have : 0 < b.length := List.length_pos_of_mem hx
    simp only [List.length_cons]
    omega
/-- Distinct numbers below a number are no more than it. -/
theorem nodup_bound {n : Nat} {a : List Int} (h : a.Nodup) (hb : ∀ x ∈ a, 0 ≤ x ∧ x < n) : a.length ≤ n := by
  have hm : (a.map Int.toNat).Nodup := by
    rw [List.Nodup, List.pairwise_map]
    refine List.Pairwise.imp_of_mem ?_ h
    intro x y hx hy hxy e
    have := hb x hx; have := hb y hy
    apply hxy
    omega
  have hs : (a.map Int.toNat) ⊆ List.range n := by
    intro x hx
    rw [List.mem_map] at hx
    obtain ⟨y, hy, rfl⟩ := hx
    have := hb y hy
    rw [List.mem_range]
    omega
  have := nodup_len hm hs
  simpa using this
theorem fold_in {g : List GN} {x : Int} : ∀ {l : List Int} {a : List Int}, x ∈ l.foldl (fun a n => (members g n).foldl addNew a) a ↔ x ∈ a ∨ ∃ n ∈ l, x ∈ members g n
  | [], a => by simp
  | m :: l, a => by
    rw [List.foldl_cons, fold_in, addAll_mem]
    simp [or_assoc]
theorem fold_nodup {g : List GN} : ∀ {l : List Int} {a : List Int}, a.Nodup → (l.foldl (fun a n => (members g n).foldl addNew a) a).Nodup
  | [], _, h => h
  | m :: l, a, h => fold_nodup (l := l) (addAll_nodup h)
def joinedG (g : List GN) (l : List Int) : List GN := if (allOf g l).length = 1 then g else g ++ [⟨8, 0, [], [], allOf g l⟩]
def joinedN (g : List GN) (l : List Int) : Int := if (allOf g l).length = 1 then (allOf g l)[0]?.getD 0 else g.length
/-- Is that an outcome of growing a graph's slice, the rest of the heap as it was? -/
structure Grown (H : Heap) (k : Cap) (n : Nat) (k' : Cap) (H' : Heap) (W : List Nat) : Prop where
  own : Own 5 H' n k'
  grw : Grw H H' W
  wrt : ∀ o ∈ W, k = .tok o ∨ H.length ≤ o
  new : k' = k ∨ ∃ o, k' = .tok o ∧ H.length ≤ o
theorem Grown.finish {H H1 : Heap} {W : List Nat} {k k' : Cap} {n : Nat} (h : Grown H k n k' H1 W) {es : List (List EV)} {r : List EV} (hr : ∀ ban, mapO (frzV H1 H.length ban freezeDepth) r = some r) :
    ∃ k2, (finishE 2 H H1 W (.tup (.fz es k' :: r))).1 = .tup (.fz es k2 :: r) ∧ Grown H k n k2 (finishE 2 H H1 W (.tup (.fz es k' :: r))).2.1 (finishE 2 H H1 W (.tup (.fz es k' :: r))).2.2 := by
  have hf := h.grw.filter
  have hwf : ∀ o ∈ W.filter (· < H.length), k = .tok o := fun o ho => by
    rw [List.mem_filter] at ho
    rcases h.wrt o ho.1 with e | e
    · exact e
    · have := ho.2; simp at this; omega
  simp only [finishE]
  generalize hW : W.filter (· < H.length) = Wf at hf hwf
  cases Wf with
  | cons a Wf => exact ⟨k', rfl, h.own, hf, fun o ho => .inl (hwf o ho), h.new⟩
  | nil =>
    cases k' with
    | no => exact h.own.elim
    | tight =>
      simp only [keepV, hr]
      refine ⟨.tight, rfl, trivial, .refl, fun o ho => (by cases ho), ?_⟩
      rcases h.new with e | ⟨o, e, _⟩
      · exact .inl e
      · cases e
    | tok o =>
      by_cases ho : o < H.length
      · have e : Cap.tok o = k := by
          rcases h.new with e | ⟨o', e, h2⟩
          · exact e
          · injection e with e; omega
        simp only [keepV, if_pos ho, frzT, mapO, frzV, frzA, hr]
        refine ⟨.tok o, rfl, ?_, .refl, fun o ho => (by cases ho), .inl e⟩
        have h1 := h.own
        simp only [Own] at h1 ⊢
        rw [← hf.2 o ho (by simp)]
        exact h1
      · have h1 := h.own
        simp only [Own] at h1
        simp only [keepV, if_neg ho, h1, hr]
        exact ⟨.tok H.length, rfl, by simp [Own], .app, fun o ho => (by cases ho), .inr ⟨_, rfl, Nat.le_refl _⟩⟩
/-- A list that is grown in a call. -/
structure Acc (H G : Heap) (n : Nat) (ka : Cap) (W : List Nat) : Prop where
  grw : Grw H G W
  wrt : ∀ o ∈ W, H.length ≤ o
  own : Own 1 G n ka
  new : ∀ o, ka = .tok o → H.length ≤ o
theorem kill_grw {G : Heap} {ka : Cap} {x : EO} : Grw G (killH G ka ++ [x]) (killW ka) := by
  cases ka with
  | tok o => exact .setapp
  | _ => exact .app
theorem Acc.push {H G : Heap} {n : Nat} {ka : Cap} {W : List Nat} (h : Acc H G n ka W) : Acc H (killH G ka ++ [.tip (n + 1)]) (n + 1) (.tok G.length) (W ++ killW ka) := by
  refine ⟨h.grw.trans kill_grw, fun o ho => ?_, by simp [Own], fun o e => ?_⟩
  · rcases List.mem_append.1 ho with ho | ho
    · exact h.wrt o ho
    · cases ka with
      | tok x => simp at ho; subst ho; exact h.new _ rfl
      | _ => simp [killW] at ho
  · injection e with e
    have := h.grw.1
    omega
theorem Acc.more {H G : Heap} {n : Nat} {ka : Cap} {W W' : List Nat} (h : Acc H G n ka W) (hs : ∀ o ∈ W, o ∈ W') (hw : ∀ o ∈ W', H.length ≤ o) : Acc H G n ka W' := ⟨⟨h.grw.1, fun o ho hn => h.grw.2 o ho (fun e => hn (hs o e))⟩, hw, h.own, h.new⟩
/-- What was there is there still. -/
theorem Acc.old {H G : Heap} {n : Nat} {ka : Cap} {W : List Nat} (h : Acc H G n ka W) {o : Nat} (ho : o < H.length) : G[o]? = H[o]? := h.grw.2 o ho fun e => by
  have := h.wrt o e
  omega
theorem allOf_mem {g : List GN} {l : List Int} {x : Int} : x ∈ allOf g l ↔ ∃ n ∈ l, x ∈ members g n := by simp [allOf, fold_in]
theorem allOf_nodup (g : List GN) (l : List Int) : (allOf g l).Nodup := fold_nodup (by simp)
theorem joined_ok (g : List GN) (k kl : Cap) (l : List Int) (H : Heap) (hg : Fair g) (hs : g.length < 1000000) (hl : l.length ≤ 1000000000000) (hk : Own 5 H g.length k) (hkl : ∀ o, k = .tok o → o < H.length) (hin : ∀ n ∈ l, ∀ m ∈ members g n, 0 ≤ m ∧ m < (g.length : Int)) (hm : ∀ n ∈ l, (members g n).length ≤ 1000000) :
    CallW ep dQ 35 [.fz (nodes g) k, .fz (ints l) kl] H fun v H' W => ∃ k', v = .tup [.fz (nodes (joinedG g l)) k', .int .i64 (joinedN g l)] ∧ Grown H k (joinedG g l).length k' H' W := by
  refine CallW.body rfl fn_35 (by unfold Tryd.f35; rfl) (by rfl) (by unfold Tryd.f35; simp) ?_
  unfold Tryd.f35
  have hgl := hg.1
  simp (config := { contextual := true, maxSteps := 1000000 }) [-Int.not_le, -Int.not_lt, -Nat.not_le, -Nat.not_lt]
  refine LoopI.inv (fun s : Nat × List Int × Cap × Heap => [(0, .fz (nodes g) k), (6, .fz (ints s.2.1) s.2.2.1), (11, .fz (ints l) kl), (12, .int .i64 l.length), (13, .int .i64 s.1)]) (fun s => s.2.2.2)
    (fun s W => Acc H s.2.2.2 s.2.1.length s.2.2.1 W ∧ s.1 ≤ l.length ∧ s.2.1 = (l.take s.1).foldl (fun a n => (members g n).foldl addNew a) []) (fun s => l.length - s.1) (0, [], .tight, H) (by simp; exact ⟨.refl, fun o h => (by cases h), trivial, fun o e => by cases e⟩) ?_
  rintro ⟨i, all, ka, G⟩ W ⟨hA, hi, hall⟩
  dsimp only at hA hi hall
  have hw := wrap_succ (i := i) (by omega)
  have hmem := fun (h : i < l.length) G' => (members_ok g k l[i] G' hg).val
  have hnd : all.Nodup := by rw [hall]; exact fold_nodup (by simp)
  by_cases hi' : i < l.length
  · simp (config := { contextual := true, maxSteps := 1000000 }) [-Int.not_le, -Int.not_lt, -Nat.not_le, -Nat.not_lt, hw, hmem, hi']
    have hml := hm l[i] (List.getElem_mem hi')
    refine LoopI.inv (fun s : Nat × List Int × Cap × Heap => [(0, .fz (nodes g) k), (6, .fz (ints s.2.1) s.2.2.1), (11, .fz (ints l) kl), (12, .int .i64 l.length), (13, .int .i64 i), (19, .fz (ints (members g l[i])) .no), (20, .int .i64 (members g l[i]).length), (21, .int .i64 s.1)]) (fun s => s.2.2.2)
      (fun s W' => Acc H s.2.2.2 s.2.1.length s.2.2.1 (W ++ W') ∧ s.1 ≤ (members g l[i]).length ∧ s.2.1 = ((members g l[i]).take s.1).foldl addNew all) (fun s => (members g l[i]).length - s.1) (0, all, ka, G) (by simpa using hA) ?_
    rintro ⟨j, al, kb, G'⟩ W' ⟨hA', hj, hal⟩
    dsimp only at hA' hj hal
    have hw2 := wrap_succ (i := j) (by omega)
    have hnd2 : al.Nodup := by rw [hal]; exact addAll_nodup hnd
    have hlen2 : al.length ≤ g.length := nodup_bound hnd2 fun x hx => by
      rw [hal, addAll_mem, hall, fold_in] at hx
      rcases hx with (hx | ⟨n, hn, hx⟩) | hx
      · simp at hx
      · exact hin n (List.mem_of_mem_take hn) x hx
      · exact hin _ (List.getElem_mem hi') x (List.mem_of_mem_take hx)
    have hc := fun x G' => (containsI_ok al kb x G' (by omega)).val
    have ha := fun x (k' : Cap) => app_int (G := G') (l := al) (x := x) (k := kb) (k' := k') (by omega) hA'.own
    have hap := hA'.push
    have hcw := hA'.wrt
    have hstep : ∀ (h : j < (members g l[i]).length), ((members g l[i]).take (j + 1)).foldl addNew all = addNew al (members g l[i])[j] := fun h => by
      rw [List.take_add_one, List.foldl_append, ← hal, List.getElem?_eq_getElem h]
      rfl
    simp (config := { contextual := true, maxSteps := 1000000 }) [-Int.not_le, -Int.not_lt, -Nat.not_le, -Nat.not_lt, hw, hw2, hc, ha]
    refine ⟨fun h => ⟨fun hx => ⟨j + 1, by omega, al ++ [(members g l[i])[j]], _, _, ⟨?_, by omega, ?_⟩, rfl, ⟨rfl, rfl⟩, by simp⟩, fun hx => ⟨j + 1, by omega, al, _, _, ⟨?_, by omega, ?_⟩, rfl, ⟨rfl, rfl⟩, by simp⟩⟩, fun h => ⟨i + 1, by omega, al, _, _, ⟨?_, by omega, ?_⟩, rfl, ⟨rfl, rfl⟩, by simp⟩⟩
    · simpa using hap
    · rw [hstep h, addNew, if_neg (by simpa using hx)]
    · simpa using hA'
    · rw [hstep h, addNew, if_pos (by simpa using hx)]
    · simpa using hA'
    · have : j = (members g l[i]).length := by omega
      rw [List.take_add_one, List.foldl_append, ← hall, List.getElem?_eq_getElem hi']
      simp [hal, this]
  · have hie : i = l.length := by omega
    have hall' : all = allOf g l := by rw [hall, hie, List.take_length]; rfl
    by_cases h1 : all.length = 1
    · obtain ⟨x, rfl⟩ := List.length_eq_one_iff.1 h1
      have hj : joinedG g l = g := by simp [joinedG, ← hall']
      have hn : joinedN g l = x := by simp [joinedN, ← hall']
      have hf := Grown.finish (k := k) (k' := k) (n := g.length) (es := nodes g) (r := [.int .i64 x]) (H := H) (H1 := G) (W := W) ⟨by
        cases k with
        | tok o => simp only [Own] at hk ⊢; rw [hA.old (hkl o rfl)]; exact hk
        | _ => exact hk, hA.grw, fun o ho => .inr (hA.wrt o ho), .inl rfl⟩ (fun _ => rfl)
      simp (config := { contextual := true, maxSteps := 1000000 }) [-Int.not_le, -Int.not_lt, -Nat.not_le, -Nat.not_lt, hi']
      refine ⟨by kernel_rfl, ?_⟩
      rw [hj, hn]
      exact hf
    · have hkG : Own 5 G g.length k := by
        cases k with
        | tok o => simp only [Own] at hk ⊢; rw [hA.old (hkl o rfl)]; exact hk
        | _ => exact hk
      have ha := fun (k' kd ke : Cap) => app_node (G := G) (l := g) (a := 8) (b := 0) (c := []) (d := []) (e := all) (k := k) (k' := k') (kd := kd) (ke := ke) (by omega) hkG
      simp only [strs_nil] at ha
      have hj : joinedG g l = g ++ [⟨8, 0, [], [], all⟩] := by simp [joinedG, ← hall', h1]
      have hn : joinedN g l = g.length := by simp [joinedN, ← hall', h1]
      have h1' : ¬ (all.length : Int) = 1 := by omega
      have hf := Grown.finish (k := k) (k' := .tok G.length) (n := (joinedG g l).length) (es := nodes (joinedG g l)) (r := [.int .i64 g.length]) (H := H) (H1 := killH G k ++ [.tip ((g.length + 1) * 5)]) (W := W ++ killW k) ⟨by rw [hj]; simp [Own], hA.grw.trans kill_grw, fun o ho => by
        rcases List.mem_append.1 ho with ho | ho
        · exact .inr (hA.wrt o ho)
        · cases k with
          | tok x => simp at ho; subst ho; exact .inl rfl
          | _ => simp [killW] at ho, .inr ⟨_, rfl, hA.grw.1⟩⟩ (fun _ => rfl)
      simp (config := { contextual := true, maxSteps := 1000000 }) [-Int.not_le, -Int.not_lt, -Nat.not_le, -Nat.not_lt, hi', ha, h1']
      rw [hn]
      rw [hj] at hf ⊢
      simpa using hf
/-- What is left of a type. -/
def leftG (g : List GN) (n : Int) (l : List Int) : List GN := if l = [] then g else if l = members g n then g else joinedG g l
def leftN (g : List GN) (n : Int) (l : List Int) : Int := if l = [] then -1 else if l = members g n then n else joinedN g l
theorem left_ok (g : List GN) (k kl : Cap) (n : Int) (l : List Int) (H : Heap) (hg : Fair g) (hs : g.length < 1000000) (hl : l.length ≤ 1000000000000) (hk : Own 5 H g.length k) (hkl : ∀ o, k = .tok o → o < H.length) (hin : ∀ n ∈ l, ∀ m ∈ members g n, 0 ≤ m ∧ m < (g.length : Int)) (hm : ∀ n ∈ l, (members g n).length ≤ 1000000) :
    CallW ep dQ 75 [.fz (nodes g) k, .int .i64 n, .fz (ints l) kl] H fun v H' W => ∃ k', v = .tup [.fz (nodes (leftG g n l)) k', .int .i64 (leftN g n l)] ∧ Grown H k (leftG g n l).length k' H' W := by
  have keep : ∀ x : Int, ∃ k', (finishE 2 H H [] (.tup [.fz (nodes g) k, .int .i64 x])).1 = .tup [.fz (nodes g) k', .int .i64 x] ∧ Grown H k g.length k' (finishE 2 H H [] (.tup [.fz (nodes g) k, .int .i64 x])).2.1 (finishE 2 H H [] (.tup [.fz (nodes g) k, .int .i64 x])).2.2 := fun x =>
    Grown.finish (k := k) (k' := k) (n := g.length) (es := nodes g) (r := [.int .i64 x]) (H := H) (H1 := H) (W := []) ⟨hk, .refl, fun o ho => (by cases ho), .inl rfl⟩ (fun _ => rfl)
  have hmem := fun G' => (members_ok g k n G' hg).val
  have heq := fun k1 k2 G' => (equalI_ok l (members g n) k1 k2 (by omega) G').val
  obtain ⟨v, H', W, hc, k', rfl, hG⟩ := joined_ok g k kl l H hg hs hl hk hkl hin hm
  have hf := fun x => Grown.finish (es := nodes (joinedG g l)) (r := [.int .i64 x]) hG (fun _ => rfl)
  have hcv := hc.val
  refine CallW.body rfl fn_75 (by unfold Tryd.f75; rfl) (by rfl) (by unfold Tryd.f75; simp) ?_
  unfold Tryd.f75
  by_cases h0 : l = []
  · subst h0
    simp (config := { contextual := true, maxSteps := 1000000 }) [-Int.not_le, -Int.not_lt, -Nat.not_le, -Nat.not_lt, leftG, leftN]
    exact keep (-1)
  by_cases h1 : l = members g n
  · have h0' : ¬ (l.length : Int) = 0 := by
      have := List.length_pos_iff.2 h0
      omega
    simp only [← h1] at heq hmem
    simp (config := { contextual := true, maxSteps := 1000000 }) [-Int.not_le, -Int.not_lt, -Nat.not_le, -Nat.not_lt, leftG, leftN, h0, h0', hmem, heq, ← h1]
    exact keep n
  · have h0' : ¬ (l.length : Int) = 0 := by
      have := List.length_pos_iff.2 h0
      omega
    simp (config := { contextual := true, maxSteps := 1000000 }) [-Int.not_le, -Int.not_lt, -Nat.not_le, -Nat.not_lt, leftG, leftN, h0, h0', hmem, heq, h1, hcv]
    exact hf _
end Go.Ev
end

/- The evaluator E: maps, by what their keys and values mean. -/
section
namespace Go.Ev
open Go
set_option linter.unusedSimpArgs false
set_option linter.unusedVariables false
set_option linter.unusedSectionVars false

section
variable {κ α : Type} [DecidableEq κ]
/-- What a map has at a key. -/
def mget : List (κ × α) → κ → Option α
  | [], _ => none
  | p :: m, x => if p.1 = x then some p.2 else mget m x
def mput : List (κ × α) → κ → α → List (κ × α)
  | [], x, v => [(x, v)]
  | p :: m, x, v => if p.1 = x then (x, v) :: m else p :: mput m x v
theorem mget_put {m : List (κ × α)} {x y : κ} {v : α} : mget (mput m x v) y = if x = y then some v else mget m y := by
  induction m with
  | nil => simp [mget, mput]
  | cons p m ih =>
    simp only [mput]
    by_cases h : p.1 = x
    · rw [if_pos h]
      subst h
      simp only [mget]
      split <;> simp_all
    · rw [if_neg h]
      simp only [mget, ih]
      by_cases h2 : p.1 = y
      · rw [if_pos h2, if_pos h2, if_neg (fun e => h (h2.trans e.symm))]
      · rw [if_neg h2, if_neg h2]
theorem mget_mem {m : List (κ × α)} {x : κ} : (mget m x).isSome = true ↔ x ∈ m.map (·.1) := by
  induction m with
  | nil => simp [mget]
  | cons p m ih =>
    simp only [mget, List.map_cons, List.mem_cons]
    by_cases h : p.1 = x
    · simp [h]
    · rw [if_neg h, ih]
      exact ⟨.inr, fun h' => h'.resolve_left fun e => h e.symm⟩
theorem mget_none {m : List (κ × α)} {x : κ} : mget m x = none ↔ x ∉ m.map (·.1) := by
  rw [← mget_mem]
  cases mget m x <;> simp
theorem mput_len {m : List (κ × α)} {x : κ} {v : α} : (mput m x v).length = if (mget m x).isSome then m.length else m.length + 1 := by
  induction m with
  | nil => simp [mget, mput]
  | cons p m ih =>
    simp only [mput, mget]
    by_cases h : p.1 = x
    · simp [h]
    · simp only [if_neg h, List.length_cons, ih]
      split <;> rfl
theorem mput_new {m : List (κ × α)} {x : κ} {v : α} (h : mget m x = none) : mput m x v = m ++ [(x, v)] := by
  induction m with
  | nil => rfl
  | cons p m ih =>
    simp only [mget] at h
    split at h
    · cases h
    · rename_i h1
      simp only [mput, if_neg h1, ih h, List.cons_append]
theorem mput_keys {m : List (κ × α)} {x : κ} {v : α} : (mput m x v).map (·.1) = if (mget m x).isSome then m.map (·.1) else m.map (·.1) ++ [x] := by
  induction m with
  | nil => simp [mget, mput]
  | cons p m ih =>
    simp only [mput, mget]
    by_cases h : p.1 = x
    · simp [h]
    · simp only [if_neg h, List.map_cons, ih]
      split <;> simp

def encM (ek : κ → EV) (ev : α → EV) (m : List (κ × α)) : List (EV × EV) := m.map fun p => (ek p.1, ev p.2)
variable {ek : κ → EV} {ev : α → EV} {T : TT} {kt et t : Nat} {H : Heap} {m : List (κ × α)} {x : κ} {v : α}
@[simp] theorem encM_nil : encM ek ev [] = [] := rfl
@[simp] theorem encM_length : (encM ek ev m).length = m.length := by simp [encM]

theorem find_M (he : ∀ a b, eqE T kt (ek a) (ek b) = some (decide (a = b))) : ∀ (m : List (κ × α)) (i : Nat), ∃ r, findE T kt (ek x) (encM ek ev m) i = some r ∧ (r = none → mget m x = none) ∧ ∀ j e, r = some (j, e) → i ≤ j ∧ (∃ u, mget m x = some u ∧ e = ev u) ∧ ∀ v, (encM ek ev m).set (j - i) (ek x, ev v) = encM ek ev (mput m x v)
  | [], i => ⟨none, rfl, fun _ => rfl, fun j e h => by cases h⟩
  | p :: m, i => by
    simp only [encM, List.map_cons, findE, he]
    by_cases h : x = p.1
    · subst h
      refine ⟨some (i, ev p.2), by simp, fun h => (by cases h), fun j e h => ?_⟩
      injection h with h; injection h with h1 h2
      subst h1; subst h2
      exact ⟨Nat.le_refl _, ⟨p.2, by simp [mget], rfl⟩, fun v => by simp [mput]⟩
    · obtain ⟨r, h1, h2, h3⟩ := find_M he m (i + 1)
      have h' : ¬ p.1 = x := fun e => h e.symm
      refine ⟨r, by simp only [h, decide_false]; exact h1, fun hr => ?_, fun j e hr => ?_⟩
      · simp only [mget, if_neg h', h2 hr]
      · obtain ⟨b, ⟨u, hu, c⟩, d⟩ := h3 j e hr
        refine ⟨by omega, ⟨u, by simp only [mget, if_neg h', hu], c⟩, fun v => ?_⟩
        obtain ⟨k, hk⟩ : ∃ k, j - i = k + 1 := ⟨j - i - 1, by omega⟩
        have := d v
        rw [show j - (i + 1) = k by omega] at this
        rw [hk, List.set_cons_succ]
        simp only [encM] at this
        rw [this]
        simp [mput, h']

theorem look_M (he : ∀ a b, eqE T kt (ek a) (ek b) = some (decide (a = b))) {a b : Nat} {c d : Bool} {z : List EV} {te : TI} {zv mm : EV} (hT : T t = some ⟨.map kt et, a, b, c, z, d⟩) (hE : T et = some te) (hk : keyOk T kt (ek x) = true) (hm : entriesE H mm = some (encM ek ev m)) (hz : zeroE te = some zv) {ok : Bool} :
    lookupE T H t mm (ek x) ok = some (if ok then .tup [((mget m x).map ev).getD zv, .bool (mget m x).isSome] else ((mget m x).map ev).getD zv) := by
  obtain ⟨r, h1, h2, h3⟩ := find_M (ev := ev) (x := x) he m 0
  simp only [lookupE, hT, hE, hk, if_true, hm, h1, hz]
  cases r with
  | none => rw [h2 rfl]; cases ok <;> simp
  | some p =>
    obtain ⟨j, e⟩ := p
    obtain ⟨_, ⟨u, hu, rfl⟩, _⟩ := h3 j e rfl
    rw [hu]
    cases ok <;> simp
theorem upd_M (he : ∀ a b, eqE T kt (ek a) (ek b) = some (decide (a = b))) {a b o : Nat} {c d : Bool} {z : List EV} (hT : T t = some ⟨.map kt et, a, b, c, z, d⟩) (hk : keyOk T kt (ek x) = true) (hm : H[o]? = some (.map (encM ek ev m))) :
    updateE T H t (.map o) (ek x) (ev v) = some (H.set o (.map (encM ek ev (mput m x v))), [o]) := by
  obtain ⟨r, h1, h2, h3⟩ := find_M (ev := ev) (x := x) he m 0
  simp only [updateE, hT, hm, hk, if_true, h1]
  cases r with
  | none => rw [mput_new (h2 rfl)]; simp [encM]
  | some p =>
    obtain ⟨j, e⟩ := p
    have := (h3 j e rfl).2.2 v
    rw [Nat.sub_zero] at this
    simp only [this]
theorem encM_mapO {f : EV → Option EV} (hk : ∀ p ∈ m, f (ek p.1) = some (ek p.1)) (hv : ∀ p ∈ m, f (ev p.2) = some (ev p.2)) : mapO f ((encM ek ev m).map (·.1)) = some ((encM ek ev m).map (·.1)) ∧ mapO f ((encM ek ev m).map (·.2)) = some ((encM ek ev m).map (·.2)) := by
  induction m with
  | nil => exact ⟨rfl, rfl⟩
  | cons p m ih =>
    obtain ⟨h1, h2⟩ := ih (fun q hq => hk q (List.mem_cons_of_mem _ hq)) (fun q hq => hv q (List.mem_cons_of_mem _ hq))
    simp only [encM, List.map_cons, mapO] at h1 h2 ⊢
    rw [hk p (List.mem_cons_self ..), hv p (List.mem_cons_self ..), h1, h2]
    exact ⟨rfl, rfl⟩
theorem zip_fst_snd {β γ : Type} : ∀ l : List (β × γ), (l.map (·.1)).zip (l.map (·.2)) = l
  | [] => rfl
  | p :: l => by simp [zip_fst_snd l]
theorem frzC_map {base o d : Nat} {ban : Option Nat} : frzC H base ban (d + 1) (.map o) = if o < base ∨ ban = some o then none else match H[o]? with
    | some (.map es) => match mapO (frzC H base ban d) (es.map (·.1)), mapO (frzC H base ban d) (es.map (·.2)) with
      | some ks, some vs => some (.fm (ks.zip vs))
      | _, _ => none
    | _ => none := rfl
theorem frzT_map {base o d : Nat} : frzT H base d (.map o) = if o < base then some (.map o) else frzC H base none d (.map o) := rfl
/-- A map of one's own that leads to nothing that may be written is handed back as it is. -/
theorem frz_M {base o : Nat} (ho : base ≤ o) (hm : H[o]? = some (.map (encM ek ev m))) (hk : ∀ p ∈ m, still (ek p.1) = some (ek p.1)) (hv : ∀ p ∈ m, still (ev p.2) = some (ev p.2)) : frzT H base freezeDepth (.map o) = some (.fm (encM ek ev m)) := by
  have hs : ∀ v v' : EV, still v = some v' → frzC H base none 19 v = some v' := fun v v' h => by cases v <;> first | exact h | cases h
  obtain ⟨h1, h2⟩ := encM_mapO (ek := ek) (ev := ev) (m := m) (f := frzC H base none 19) (fun p hp => hs _ _ (hk p hp)) (fun p hp => hs _ _ (hv p hp))
  have hlt : ¬ o < base := by omega
  have hlt2 : ¬ (o < base ∨ (none : Option Nat) = some o) := by rintro (h | h); exact hlt h; cases h
  rw [frzT_map, if_neg hlt, show freezeDepth = 19 + 1 from rfl, frzC_map, if_neg hlt2, hm]
  dsimp only
  rw [h1, h2]
  dsimp only
  rw [zip_fst_snd]
end
def ekI (n : Int) : EV := .int .i64 n
def ekS (s : List UInt8) : EV := .str s
end Go.Ev
end

/- What searches, shapes and fields compute. -/
section
namespace Go.Ev
open Go Go.Proofs
set_option linter.unusedSimpArgs false
set_option linter.unusedVariables false
set_option maxRecDepth 100000
set_option maxHeartbeats 4000000

theorem less_trans : ∀ {a b c : Str}, Op.bytesLess a b = true → Op.bytesLess b c = true → Op.bytesLess a c = true
  | [], [], _, h, _ => by simp [Op.bytesLess] at h
  | _ :: _, [], _, h, _ => by simp [Op.bytesLess] at h
  | _, _ :: _, [], _, h => by simp [Op.bytesLess] at h
  | [], _ :: _, _ :: _, _, _ => by simp [Op.bytesLess]
  | a :: r, b :: s, c :: t, h, k => by
    simp only [Op.bytesLess, Bool.or_eq_true, Bool.and_eq_true, decide_eq_true_eq, beq_iff_eq] at h k ⊢
    rcases h with h | ⟨rfl, h⟩
    · rcases k with k | ⟨rfl, k⟩
      · exact .inl (UInt8.lt_trans h k)
      · exact .inl h
    · rcases k with k | ⟨rfl, k⟩
      · exact .inl k
      · exact .inr ⟨rfl, less_trans h k⟩
theorem less_antisymm {a b : Str} (h : Op.bytesLess a b = true) : Op.bytesLess b a = false := by
  rw [Bool.eq_false_iff]
  intro k
  have := less_trans h k
  rw [less_self] at this
  cases this
theorem less_total : ∀ (a b : Str), Op.bytesLess a b = false → Op.bytesLess b a = false → a = b
  | [], [], _, _ => rfl
  | _ :: _, [], _, k => by simp [Op.bytesLess] at k
  | [], _ :: _, h, _ => by simp [Op.bytesLess] at h
  | a :: r, b :: s, h, k => by
    simp only [Op.bytesLess, Bool.or_eq_false_iff, Bool.and_eq_false_imp, decide_eq_false_iff_not, beq_iff_eq] at h k
    have : a = b := UInt8.le_antisymm (UInt8.not_lt.1 k.1) (UInt8.not_lt.1 h.1)
    subst this
    rw [less_total r s (h.2 rfl) (k.2 rfl)]
theorem risen_lt {l : List Str} (hs : risen l = true) : ∀ (j i : Nat) (hj : j < l.length) (hi : i < j), Op.bytesLess (l[i]'(by omega)) l[j] = true := by
  intro j
  induction j with
  | zero => intro i _ h; omega
  | succ j ih =>
    intro i hj hi
    have h1 : Op.bytesLess l[j] l[j + 1] = true := by
      have := risen_iff.1 hs j hj
      unfold cmp2 at this
      split at this
      · omega
      · rename_i hne
        split at this
        · omega
        · rename_i hl
          cases h : Op.bytesLess l[j] l[j + 1] with
          | true => rfl
          | false => exact absurd (less_total _ _ (by simpa using hl) h) hne
    rcases Nat.lt_or_eq_of_le (Nat.le_of_lt_succ hi) with h | h
    · exact less_trans (ih i (by omega) h) h1
    · subst h; exact h1
/-- Where a text is, or would be. -/
def bsN (l : List Str) (x : Str) : Nat := (l.takeWhile (Op.bytesLess · x)).length
theorem takeWhile_at {α : Type} {p : α → Bool} : ∀ {l : List α} {i : Nat}, i ≤ l.length → (∀ (j : Nat) (h : j < l.length), j < i → p l[j] = true) → (∀ (j : Nat) (h : j < l.length), i ≤ j → p l[j] = false) → (l.takeWhile p).length = i
  | [], i, h, _, _ => by simp at h; simp [h]
  | a :: l, 0, _, _, h2 => by
    have := h2 0 (by simp) (Nat.le_refl _)
    simp at this
    simp [List.takeWhile_cons, this]
  | a :: l, i + 1, h, h1, h2 => by
    have h0 := h1 0 (by simp) (by omega)
    simp at h0
    rw [List.takeWhile_cons, if_pos h0, List.length_cons, takeWhile_at (l := l) (i := i) (by simpa using h) (fun j hj hi => h1 (j + 1) (by simp; exact hj) (by omega)) (fun j hj hi => h2 (j + 1) (by simp; exact hj) (by omega))]
theorem search_ok (l : List Str) (k : Cap) (x : Str) (H : Heap) (hl : l.length ≤ 1000000) (hs : risen l = true) : CallR ep dQ 64 [.fz (strs l) k, .str x] H (.tup [.int .i64 (bsN l x), .bool (l.contains x)]) H [] := by
  refine CallW.is (CallW.body rfl fn_64 (by unfold Tryd.f64; rfl) (by rfl) (by unfold Tryd.f64; simp) ?_)
  unfold Tryd.f64
  simp (config := { contextual := true, maxSteps := 1000000 }) [-Int.not_le, -Int.not_lt, -Nat.not_le, -Nat.not_lt]
  refine LoopI.inv (fun s : Nat × Nat => [(0, .fz (strs l) k), (1, .str x), (6, .int .i64 l.length), (7, .int .i64 s.1), (8, .int .i64 s.2)]) (fun _ => H) (fun s W => W = [] ∧ s.1 ≤ s.2 ∧ s.2 ≤ l.length ∧ (∀ (j : Nat) (h : j < l.length), j < s.1 → Op.bytesLess l[j] x = true) ∧ (∀ (j : Nat) (h : j < l.length), s.2 ≤ j → Op.bytesLess l[j] x = false)) (fun s => s.2 - s.1) (0, l.length) (by simp; omega) ?_
  rintro ⟨lo, hi⟩ W ⟨rfl, h1, h2, h3, h4⟩
  dsimp only at h1 h2 h3 h4
  by_cases hlt : lo < hi
  · obtain ⟨m, hm⟩ : ∃ m : Nat, m = (lo + hi) / 2 := ⟨_, rfl⟩
    have hml : m < l.length := by omega
    have e1 : IntKind.i64.wrap ((lo : Int) + hi) = lo + hi := wrap64 (by omega) (by omega)
    have e2 : IntKind.u64.wrap ((lo : Int) + hi) = lo + hi := by
      simp [IntKind.wrap, IntKind.bits, IntKind.signed]
      omega
    have e3 : ((lo : Int) + hi).fdiv 2 = m := by
      rw [Int.fdiv_eq_ediv_of_nonneg _ (by omega)]
      omega
    have e4 : IntKind.i64.wrap (m : Int) = m := wrap64 (by omega) (by omega)
    have e5 := wrap_succ (i := m) (by omega)
    simp (config := { contextual := true, maxSteps := 1000000 }) [-Int.not_le, -Int.not_lt, -Nat.not_le, -Nat.not_lt, (less_ok _ _ _).val, hlt, e1, e2, e3, e4, e5, hml, IntKind.bits]
    refine ⟨fun hb => ⟨m + 1, hi, by omega, ⟨by omega, h2, fun j hj hjm => ?_, h4⟩, by simp⟩, fun hb => ⟨lo, m, by omega, ⟨by omega, by omega, h3, fun j hj hjm => ?_⟩, by simp⟩⟩
    · rcases Nat.lt_or_eq_of_le (Nat.le_of_lt_succ hjm) with h | h
      · exact less_trans (risen_lt hs m j hml h) hb
      · subst h; exact hb
    · rcases Nat.lt_or_eq_of_le hjm with h | h
      · rw [Bool.eq_false_iff]
        intro k
        have := less_trans (risen_lt hs j m hj h) k
        rw [hb] at this
        cases this
      · subst h; exact hb
  · have he : hi = lo := by omega
    subst he
    have hb : bsN l x = hi := takeWhile_at h2 h3 h4
    have hmem : ∀ (j : Nat) (h : j < l.length), l[j] = x → j = hi := fun j h e => by
      rcases Nat.lt_or_ge j hi with hj | hj
      · have := h3 j h hj
        rw [e, less_self] at this
        cases this
      · rcases Nat.lt_or_eq_of_le hj with h5 | h5
        · have h6 := risen_lt hs j hi h h5
          have h7 := h4 hi (by omega) (Nat.le_refl _)
          rw [e] at h6
          rw [h6] at h7
          cases h7
        · exact h5.symm
    by_cases hll : hi < l.length
    · by_cases hx : l[hi] = x
      · simp (config := { contextual := true, maxSteps := 1000000 }) [-Int.not_le, -Int.not_lt, -Nat.not_le, -Nat.not_lt, (less_ok _ _ _).val, hll, hx, hb]
        rw [← hx]
        exact List.getElem_mem hll
      · simp (config := { contextual := true, maxSteps := 1000000 }) [-Int.not_le, -Int.not_lt, -Nat.not_le, -Nat.not_lt, (less_ok _ _ _).val, (isNaN2_ok _ _).val, hll, hx, hb]
        intro hm
        obtain ⟨j, hj, e⟩ := List.mem_iff_getElem.1 hm
        exact hx ((hmem j hj e) ▸ e)
    · simp (config := { contextual := true, maxSteps := 1000000 }) [-Int.not_le, -Int.not_lt, -Nat.not_le, -Nat.not_lt, (less_ok _ _ _).val, hll, hb]
      intro hm
      obtain ⟨j, hj, e⟩ := List.mem_iff_getElem.1 hm
      have := hmem j hj e
      omega
/-- The kinds of shapes that are no tags. -/
def shapeK (s : Str) : Int := if s = [110, 117, 108, 108] then 2 else if s = [98, 111, 111, 108] then 3 else if s = [105, 110, 116] then 4 else if s = [114, 101, 99] then 7 else 0
/-! ### maps by texts, by whole numbers -/
theorem eq_str (a b : Str) : eqE ep.T 9 (ekS a) (ekS b) = some (decide (a = b)) := by
  simp only [eqE, ekS, ty_9]
  exact congrArg some (by rw [Bool.eq_iff_iff]; simp)
theorem eq_num (a b : Int) : eqE ep.T 3 (ekI a) (ekI b) = some (decide (a = b)) := by
  simp only [eqE, ekI, ty_3, if_true]
  exact congrArg some (by rw [Bool.eq_iff_iff]; simp)
theorem key_str (a : Str) : keyOk ep.T 9 (ekS a) = true := by simp [keyOk, ekS]
theorem key_num (a : Int) : keyOk ep.T 3 (ekI a) = true := by simp [keyOk, ekI]
def shapesL : List (Str × Int) := [([110, 117, 108, 108], 2), ([98, 111, 111, 108], 3), ([105, 110, 116], 4), ([114, 101, 99], 7)]
theorem shapes_ok (H : Heap) : CallR ep dQ 69 [] H (.fm (encM ekS ekI shapesL)) H [] := by
  have hu : ∀ (m : List (Str × Int)) s n, updateE ep.T (H ++ [.map (encM ekS ekI m)]) 97 (.map H.length) (.str s) (.int .i64 n) = some (H ++ [.map (encM ekS ekI (mput m s n))], [H.length]) := fun m s n => by
    have := upd_M (H := H ++ [.map (encM ekS ekI m)]) (o := H.length) (m := m) (x := s) (v := n) (ev := ekI) eq_str ty_97 (key_str s) (by simp)
    simp only [ekS, ekI] at this ⊢
    rw [this]
    simp [List.set_append]
  have h0 := hu []
  rw [encM_nil] at h0
  have hz : frzT (H ++ [EO.map (encM ekS ekI shapesL)]) H.length freezeDepth (.map H.length) = some (.fm (encM ekS ekI shapesL)) := frz_M (Nat.le_refl _) (by simp) (fun _ _ => rfl) (fun _ _ => rfl)
  have hl : mput (mput (mput (mput ([] : List (Str × Int)) [110, 117, 108, 108] 2) [98, 111, 111, 108] 3) [105, 110, 116] 4) [114, 101, 99] 7 = shapesL := rfl
  refine CallW.is (CallW.body rfl fn_69 (by unfold Tryd.f69; rfl) (by rfl) (by unfold Tryd.f69; simp) ?_)
  unfold Tryd.f69
  simp (config := { contextual := true, maxSteps := 1000000 }) [-Int.not_le, -Int.not_lt, -Nat.not_le, -Nat.not_lt, h0, hu, hl, hf1, hz, -encM_nil]
theorem look_shape {H : Heap} (s : Str) : lookupE ep.T H 97 (.fm (encM ekS ekI shapesL)) (.str s) false = some (.int .i64 (shapeK s)) := by
  have := look_M (H := H) (m := shapesL) (x := s) (ev := ekI) (mm := .fm (encM ekS ekI shapesL)) (ok := false) eq_str ty_97 ty_3 (key_str s) rfl rfl
  simp only [ekS] at this ⊢
  rw [this]
  simp only [shapesL, mget, shapeK, ekI]
  by_cases h1 : s = [110, 117, 108, 108]
  · simp [h1, ekI]
  by_cases h2 : s = [98, 111, 111, 108]
  · simp [h2, ekI]
  by_cases h3 : s = [105, 110, 116]
  · simp [h3, ekI]
  by_cases h4 : s = [114, 101, 99]
  · simp [h4, ekI]
  simp [h1, h2, h3, h4, Ne.symm h1, Ne.symm h2, Ne.symm h3, Ne.symm h4, ekI]
/-- Is it a shape? -/
def isShapeB (s : Str) : Bool := decide (shapeK s ≠ 0) || (cutPre s [39]).2 && (isName (cutPre s [39]).1 || keyWords.contains (cutPre s [39]).1)
theorem isShape_ok (s : Str) (H : Heap) : CallR ep dQ 45 [.str s] H (.bool (isShapeB s)) H [] := by
  refine CallW.is (CallW.body rfl fn_45 (by unfold Tryd.f45; rfl) (by rfl) (by unfold Tryd.f45; simp) ?_)
  unfold Tryd.f45
  simp (config := { contextual := true, maxSteps := 1000000 }) [-Int.not_le, -Int.not_lt, -Nat.not_le, -Nat.not_lt, (shapes_ok _).val, (cutPrefix_ok _ _ _).val, look_shape, (isName_ok _ _).val, (isKey_ok _ _).val]
  simp [isShapeB]
/-- The node of a shape. -/
def shapeN (s : Str) : GN := if (cutPre s [39]).2 then ⟨5, 0, (cutPre s [39]).1, [], []⟩ else ⟨shapeK s, 0, [], [], []⟩
theorem node_ok (s : Str) (H : Heap) : CallR ep dQ 46 [.str s] H (.agg (shapeN s).enc) H [] := by
  refine CallW.is (CallW.body rfl fn_46 (by unfold Tryd.f46; rfl) (by rfl) (by unfold Tryd.f46; simp) ?_)
  unfold Tryd.f46
  simp (config := { contextual := true, maxSteps := 1000000 }) [-Int.not_le, -Int.not_lt, -Nat.not_le, -Nat.not_lt, (shapes_ok _).val, (cutPrefix_ok _ _ _).val, look_shape, (isName_ok _ _).val, (isKey_ok _ _).val, hf1, shapeN]
end Go.Ev
end

/- What joins of types compute. -/
section
namespace Go.Ev
open Go Go.Proofs
set_option linter.unusedSimpArgs false
set_option linter.unusedVariables false
set_option maxRecDepth 100000
set_option maxHeartbeats 4000000

theorem at0_mem {g : List GN} {n : Int} (h : ¬ (n < 0 ∨ (g.length : Int) ≤ n)) : at0 g n ∈ g := by
  obtain ⟨i, rfl, hi⟩ := inside h
  rw [at0_nat hi]
  exact List.getElem_mem hi
theorem check_ok0 {g : List GN} (h : checkG g = 0) : g.length ≤ 2000 ∧ ∀ n ∈ g, nodeOk g n = true := by
  unfold checkG at h
  split at h
  · omega
  · split at h
    · rename_i h1 h2
      exact ⟨by omega, fun n hn => by rw [List.all_eq_true] at h2; exact h2 n hn⟩
    · omega
theorem node_places {g : List GN} {n : GN} (h : nodeOk g n = true) : ∀ x ∈ n.l, 0 ≤ x ∧ x < (g.length : Int) := fun x hx => by
  unfold nodeOk fitP at h
  simp only [Bool.and_eq_true, Bool.not_eq_true'] at h
  have := List.any_eq_false.1 h.1.1.1.1 x hx
  simp [outP] at this
  omega
theorem members_in {g : List GN} (h : checkG g = 0) (n : Int) : ∀ m ∈ members g n, 0 ≤ m ∧ m < (g.length : Int) := fun m hm => by
  unfold members at hm
  split at hm
  · cases hm
  · rename_i hn
    split at hm
    · exact node_places ((check_ok0 h).2 _ (at0_mem hn)) m hm
    · rw [List.mem_singleton] at hm
      omega
theorem members_len {g : List GN} (hg : Fair g) (n : Int) : (members g n).length ≤ 1000000 := by
  unfold members
  split
  · simp
  · rename_i hn
    split
    · exact (hg.2 _ (at0_mem hn)).1
    · simp
theorem copy_own (g : List GN) (k : Cap) (H : Heap) (hg : Fair g) : ∃ k1 H1, CallR ep dQ 28 [.fz (nodes g) k] H (.fz (nodes g) k1) H1 [] ∧ Own 5 H1 g.length k1 ∧ (∀ o, k1 = .tok o → o < H1.length) ∧ Grw H H1 [] ∧ ∀ o, k1 = .tok o → H.length ≤ o := by
  have h := copy_ok g k H hg
  by_cases hn : g = []
  · subst hn
    exact ⟨.tight, H, by simpa using h, trivial, fun o e => (by cases e), .refl, fun o e => (by cases e)⟩
  · rw [if_neg hn, if_neg hn] at h
    refine ⟨_, _, h, by simp [Own], fun o e => ?_, ⟨by simp, fun o ho _ => List.getElem?_append_left ho⟩, fun o e => ?_⟩
    · injection e with e; simp; omega
    · injection e with e; omega
theorem frzV_far {H : Heap} {base : Nat} {ban : Option Nat} {es : List (List EV)} {k : Cap} (h : ∀ o, k = .tok o → base ≤ o) : frzV H base ban freezeDepth (.fz es k) = some (.fz es .no) := by
  cases k with
  | no => rfl
  | tight => rfl
  | tok o => exact frzV_tok (h o rfl)
theorem frzT_far {H : Heap} {base : Nat} {es : List (List EV)} {k : Cap} (h : ∀ o, k = .tok o → base ≤ o) : frzT H base freezeDepth (.fz es k) = some (.fz es .no) := by
  cases k with
  | no => rfl
  | tight => rfl
  | tok o => exact frzT_tok (h o rfl)
def ofE (g : List GN) (l : List Int) : Int := if placesG g l ≠ 0 then placesG g l else if l = [] then 2 else if 2000 < (joinedG g l).length then 5 else 0
theorem of_ok (g : List GN) (l : List Int) (k kl : Cap) (H : Heap) (hg : Fair g) (hl : l.length ≤ 1000000000000) : CallR ep dQ 11 [.fz (nodes g) k, .fz (ints l) kl] H (.tup [.fz (nodes (if ofE g l = 0 then joinedG g l else [])) .no, .int .i64 (if ofE g l = 0 then joinedN g l else 0), .int .i64 (ofE g l)]) H [] := by
  have hm := fun G => (joinMay_ok g k kl l G hg hl).val
  refine CallW.is (CallW.body rfl fn_11 (by unfold Tryd.f11; rfl) (by rfl) (by unfold Tryd.f11; simp) ?_)
  unfold Tryd.f11
  by_cases h0 : placesG g l = 0
  · have hc : checkG g = 0 := by
      unfold placesG at h0
      split at h0
      · omega
      · omega
    by_cases h1 : l = []
    · subst h1
      simp only [ints_nil] at hm
      simp (config := { contextual := true, maxSteps := 1000000 }) [-Int.not_le, -Int.not_lt, -Nat.not_le, -Nat.not_lt, hm, h0, ofE]
    · have h1' : ¬ (l.length : Int) = 0 := by
        have := List.length_pos_iff.2 h1
        omega
      obtain ⟨k1, H1, hcp, ho1, hl1, hg1, hn1⟩ := copy_own g k H hg
      obtain ⟨v, H', W, hj, k', rfl, hG⟩ := joined_ok g k1 kl l H1 hg (by have := (check_ok0 hc).1; omega) hl ho1 hl1 (fun n hn => members_in hc n) (fun n hn => members_len hg n)
      have hHl : H.length ≤ H1.length := hg1.1
      have hW : ∀ o ∈ W, H.length ≤ o := fun o ho => (hG.wrt o ho).elim (fun h => hn1 o h) fun h => by omega
      have hk' : ∀ o, k' = .tok o → H.length ≤ o := fun o ho => hG.new.elim (fun h => hn1 o (h ▸ ho)) fun ⟨o', h1, h2⟩ => by
        rw [h1] at ho
        injection ho with ho
        omega
      have hz := fun G es => frzV_far (H := G) (ban := none) (es := es) hk'
      by_cases hbig : 2000 < (joinedG g l).length
      · have hbig' : (2000 : Int) < (joinedG g l).length := by omega
        simp (config := { contextual := true, maxSteps := 1000000 }) [-Int.not_le, -Int.not_lt, -Nat.not_le, -Nat.not_lt, hm, h0, ofE, h1, h1', hcp.val, hj.val, hf1 hW, hz, hbig, hbig']
      · have hbig' : ¬ (2000 : Int) < (joinedG g l).length := by omega
        simp (config := { contextual := true, maxSteps := 1000000 }) [-Int.not_le, -Int.not_lt, -Nat.not_le, -Nat.not_lt, hm, h0, ofE, h1, h1', hcp.val, hj.val, hf1 hW, hz, hbig, hbig']
  · simp (config := { contextual := true, maxSteps := 1000000 }) [-Int.not_le, -Int.not_lt, -Nat.not_le, -Nat.not_lt, hm, h0, ofE]
end Go.Ev
end

/- What narrows types: the small parts. -/
section
namespace Go.Ev
open Go Go.Proofs
set_option linter.unusedSimpArgs false
set_option linter.unusedVariables false
set_option maxRecDepth 100000
set_option maxHeartbeats 200000

@[simp] theorem neq_fn {t f : Nat} {a b : List EV} (h : ∃ x y z u w, ep.T t = some ⟨.func, x, y, z, u, w⟩) : binE ep.T .neq t (.fn f a b) .nilf = some (.bool true) := by
  obtain ⟨x, y, z, u, w, h⟩ := h
  simp [binE, eqE, h]
@[simp] theorem neq_nilf {t : Nat} (h : ∃ x y z u w, ep.T t = some ⟨.func, x, y, z, u, w⟩) : binE ep.T .neq t .nilf .nilf = some (.bool false) := by
  obtain ⟨x, y, z, u, w, h⟩ := h
  simp [binE, eqE, h]
theorem app_get {H : Heap} {o : Nat} {x : EO} (h : H[o]? = some x) (l : Heap) : (H ++ l)[o]? = some x := by
  rw [List.getElem?_append_left (List.getElem?_eq_some_iff.1 h).1]
  exact h
theorem finish0_w {H G : Heap} {W : List Nat} {w : Nat} {ws : List Nat} {v : EV} (h : W.filter (· < H.length) = w :: ws) : finishE 0 H G W v = (v, G, w :: ws) := by
  simp only [finishE, h]
theorem set_left {H l : Heap} {o : Nat} {x : EO} (h : o < H.length) : (H ++ l).set o x = H.set o x ++ l := by
  rw [List.set_append, if_pos h]
/-- A narrower's cells. -/
def nwCells (g : List GN) (kg : Cap) (key : Str) (sh : GN) (tv dv : EV) : List EV := [.fz (nodes g) kg, .str key, .int .i64 sh.kind, .int .i64 sh.num, .str sh.name, .fz (strs sh.keys) .no, .fz (ints sh.l) .no, tv, dv]
/-- How a node is narrowed, by its kind. -/
def tabOf (tb : List (Int × Nat)) (o : Nat) : List (EV × EV) := encM ekI (fun f => .fn f [.ptr o 0] []) tb
def tbS : List (Int × Nat) := [(1, 71), (9, 72), (0, 73)]
def tbK : List (Int × Nat) := [(1, 71), (9, 72), (7, 83), (0, 84)]

theorem dyn_ok (p n op : EV) (H : Heap) : CallR ep dQ 71 [p, n, op] H (.agg [.bool true, .bool true]) H [] := by
  refine CallW.is (CallW.body rfl fn_71 (by unfold Tryd.f71; rfl) (by rfl) (by unfold Tryd.f71; simp) ?_)
  unfold Tryd.f71
  simp (config := { contextual := true, maxSteps := 1000000 }) [-Int.not_le, -Int.not_lt, -Nat.not_le, -Nat.not_lt, hf1]
theorem other_ok (p n op : EV) (H : Heap) : CallR ep dQ 84 [p, n, op] H (.agg [.bool false, .bool true]) H [] := by
  refine CallW.is (CallW.body rfl fn_84 (by unfold Tryd.f84; rfl) (by rfl) (by unfold Tryd.f84; simp) ?_)
  unfold Tryd.f84
  simp (config := { contextual := true, maxSteps := 1000000 }) [-Int.not_le, -Int.not_lt, -Nat.not_le, -Nat.not_lt, hf1]
def plainF (g : List GN) (sh : GN) (m : Int) : Bool × Bool := (decide ((at0 g m).kind = sh.kind ∧ (at0 g m).name = sh.name), !decide ((at0 g m).kind = sh.kind ∧ (at0 g m).name = sh.name))
theorem plain_ok (g : List GN) (kg : Cap) (key : Str) (sh : GN) (tv dv op : EV) (o : Nat) (m : Int) (H : Heap) (ho : H[o]? = some (.cells (nwCells g kg key sh tv dv))) (h0 : 0 ≤ m) (h1 : m.toNat < g.length) :
    CallR ep dQ 73 [.ptr o 0, .int .i64 m, op] H (.agg [.bool (plainF g sh m).1, .bool (plainF g sh m).2]) H [] := by
  have hlt : o < H.length := (List.getElem?_eq_some_iff.1 ho).1
  have hat : at0 g m = g[m.toNat]'h1 := by
    unfold at0
    simp [h1]
  unfold nwCells at ho
  refine CallW.is (CallW.body rfl fn_73 (by unfold Tryd.f73; rfl) (by rfl) (by unfold Tryd.f73; simp) ?_)
  unfold Tryd.f73
  have ha := app_get ho
  simp (config := { contextual := true, maxSteps := 1000000 }) [-Int.not_le, -Int.not_lt, -Nat.not_le, -Nat.not_lt, ha, h0, h1, hf1]
  refine ⟨by kernel_rfl, ?_⟩
  simp only [plainF, hat]
  refine ⟨fun h => ?_, fun h => by simp [h]⟩
  by_cases hn : (g[m.toNat]'h1).name = sh.name
  · simp [h, hn]
  · simp [h, hn]
theorem upd_tab {H : Heap} {o : Nat} (tb : List (Int × Nat)) (k : Int) (f : Nat) : updateE ep.T (H ++ [.map (tabOf tb o)]) 71 (.map H.length) (.int .i64 k) (.fn f [.ptr o 0] []) = some (H ++ [.map (tabOf (mput tb k f) o)], [H.length]) := by
  have := upd_M (H := H ++ [.map (tabOf tb o)]) (o := H.length) (m := tb) (x := k) (v := f) (ev := fun f => .fn f [.ptr o 0] []) eq_num ty_71 (key_num k) (by simp [tabOf])
  simp only [ekI] at this
  rw [this]
  simp [List.set_append, tabOf, ekI]
theorem byShape_ok (g : List GN) (kg : Cap) (key : Str) (sh : GN) (tv dv : EV) (o : Nat) (H : Heap) (ho : H[o]? = some (.cells (nwCells g kg key sh tv dv))) :
    CallR ep dQ 47 [.ptr o 0] H (.ptr o 0) (H.set o (.cells (nwCells g kg key sh (.map H.length) dv)) ++ [.map (tabOf tbS o)]) [o] := by
  have hlt : o < H.length := (List.getElem?_eq_some_iff.1 ho).1
  have hu := fun tb k f => upd_tab (H := H) (o := o) tb k f
  have h0 := hu []
  rw [show tabOf [] o = [] from rfl] at h0
  have hl : mput (mput (mput ([] : List (Int × Nat)) 1 71) 9 72) 0 73 = tbS := rfl
  have ha := app_get ho
  unfold nwCells at ho ha ⊢
  refine CallW.is (CallW.body rfl fn_47 (by unfold Tryd.f47; rfl) (by rfl) (by unfold Tryd.f47; simp) ?_)
  unfold Tryd.f47
  have hf : ∀ G v, finishE 0 H G [H.length, H.length, H.length, o] v = (v, G, [o]) := fun G v => finish0_w (by simp [hlt])
  simp (config := { contextual := true, maxSteps := 1000000 }) [-Int.not_le, -Int.not_lt, -Nat.not_le, -Nat.not_lt, ha, h0, hu, hl, hf, set_left hlt]
theorem byKey_ok (g : List GN) (kg : Cap) (key : Str) (sh : GN) (tv dv : EV) (o : Nat) (H : Heap) (ho : H[o]? = some (.cells (nwCells g kg key sh tv dv))) :
    CallR ep dQ 52 [.ptr o 0] H (.ptr o 0) (H.set o (.cells (nwCells g kg key sh (.map H.length) dv)) ++ [.map (tabOf tbK o)]) [o] := by
  have hlt : o < H.length := (List.getElem?_eq_some_iff.1 ho).1
  have hu := fun tb k f => upd_tab (H := H) (o := o) tb k f
  have h0 := hu []
  rw [show tabOf [] o = [] from rfl] at h0
  have hl : mput (mput (mput (mput ([] : List (Int × Nat)) 1 71) 9 72) 7 83) 0 84 = tbK := rfl
  have ha := app_get ho
  unfold nwCells at ho ha ⊢
  refine CallW.is (CallW.body rfl fn_52 (by unfold Tryd.f52; rfl) (by rfl) (by unfold Tryd.f52; simp) ?_)
  unfold Tryd.f52
  have hf : ∀ G v, finishE 0 H G [H.length, H.length, H.length, H.length, o] v = (v, G, [o]) := fun G v => finish0_w (by simp [hlt])
  simp (config := { contextual := true, maxSteps := 1000000 }) [-Int.not_le, -Int.not_lt, -Nat.not_le, -Nat.not_lt, ha, h0, hu, hl, hf, set_left hlt]
end Go.Ev
end

/- What narrowing a type computes. -/
section
namespace Go.Ev
open Go Go.Proofs
set_option linter.unusedSimpArgs false
set_option linter.unusedVariables false
set_option maxRecDepth 100000
set_option maxHeartbeats 200000

abbrev BB := Bool × Bool
abbrev DM := List (Int × Bool)
def orB (x y : BB) : BB := (x.1 || y.1, x.2 || y.2)
/-- A node, narrowed. -/
def oneF (g : List GN) (leaf : Int → BB) (deep : List Int → DM → Int → BB × DM) (op : List Int) (d : DM) (m : Int) : BB × DM :=
  if (at0 g m).kind = 1 then ((true, true), d)
  else if (at0 g m).kind = 9 then
    if op.contains m then ((true, true), d)
    else if (mget (if op = [] then [] else d) m).getD false then ((false, false), if op = [] then [] else d)
    else ((deep (op ++ [m]) (if op = [] then [] else d) ((at0 g m).l.headD 0)).1, mput (deep (op ++ [m]) (if op = [] then [] else d) ((at0 g m).l.headD 0)).2 m true)
  else (leaf m, d)
def foldF (one : DM → Int → BB × DM) (l : List Int) (d : DM) : BB × DM := l.foldl (fun s m => (orB s.1 (one s.2 m).1, (one s.2 m).2)) ((false, false), d)
/-- A type, narrowed; at most so deep. -/
def lookF (g : List GN) (leaf : Int → BB) : Nat → List Int → DM → Int → BB × DM
  | 0, op, d, n => foldF (oneF g leaf (fun _ d _ => ((false, false), d)) op) (members g n) d
  | k + 1, op, d, n => foldF (oneF g leaf (lookF g leaf k) op) (members g n) d
def deepF (g : List GN) (leaf : Int → BB) : Nat → List Int → DM → Int → BB × DM
  | 0 => fun _ d _ => ((false, false), d)
  | k + 1 => lookF g leaf k
theorem lookF_eq {g : List GN} {leaf : Int → BB} {k : Nat} {op : List Int} {d : DM} {n : Int} : lookF g leaf k op d n = foldF (oneF g leaf (deepF g leaf k) op) (members g n) d := by
  cases k <;> rfl

/-- What may be written: ahead of all, the narrower; behind, what is done. -/
def Wok (op : List Int) (o : Nat) (dv : EV) (x : Nat) : Prop := (op = [] ∧ x = o) ∨ (op ≠ [] ∧ dv = .map x)
/-- What is done lies there. -/
def Dok (H : Heap) (op : List Int) (o t : Nat) (dv : EV) (d : DM) : Prop := op ≠ [] → ∃ q, dv = .map q ∧ q ≠ o ∧ q ≠ t ∧ H[q]? = some (.map (encM ekI EV.bool d))
/-- What a narrower's call leaves. -/
structure NQ (g : List GN) (kg : Cap) (key : Str) (sh : GN) (o t : Nat) (op : List Int) (dv : EV) (H : Heap) (r : BB × DM) (v : EV) (H' : Heap) (W : List Nat) : Prop where
  val : v = .agg [.bool r.1.1, .bool r.1.2]
  grw : Grw H H' W
  wrt : ∀ x ∈ W, Wok op o dv x
  st : ∃ dv', H'[o]? = some (.cells (nwCells g kg key sh (.map t) dv')) ∧ (op ≠ [] → dv' = dv) ∧ Dok H' op o t dv' r.2
/-- What holds ahead of it. -/
structure NP (g : List GN) (kg : Cap) (key : Str) (sh : GN) (tb : List (Int × Nat)) (o t : Nat) (op : List Int) (dv : EV) (d : DM) (H : Heap) : Prop where
  obj : H[o]? = some (.cells (nwCells g kg key sh (.map t) dv))
  tab : H[t]? = some (.map (tabOf tb o))
  don : Dok H op o t dv d
theorem NP.ne {g kg key sh tb o t op dv d H} (h : NP g kg key sh tb o t op dv d H) : t ≠ o := fun e => by
  have h1 := h.obj
  rw [← e, h.tab] at h1
  injection h1 with h1
  cases h1
theorem NQ.np {g kg key sh tb o t op dv d H r v H' W} (h : NP g kg key sh tb o t op dv d H) (q : NQ g kg key sh o t op dv H r v H' W) : ∃ dv', (op ≠ [] → dv' = dv) ∧ NP g kg key sh tb o t op dv' r.2 H' := by
  obtain ⟨dv', h1, h2, h3⟩ := q.st
  refine ⟨dv', h2, h1, ?_, h3⟩
  rw [q.grw.2 t (List.getElem?_eq_some_iff.1 h.tab).1 (fun ht => ?_)]
  · exact h.tab
  · rcases q.wrt t ht with ⟨_, e⟩ | ⟨e1, e2⟩
    · exact h.ne e
    · obtain ⟨q', h4, _, h5, _⟩ := h.don e1
      rw [e2] at h4
      injection h4 with h4
      exact h5 h4.symm
/-- What a call hands back that leaves the heap as it was, or what it wrote of the caller's. -/
theorem fin0 {H G : Heap} {W : List Nat} {v : EV} (hv : frzT G H.length freezeDepth v = some v) (hg : Grw H G W) : ∃ H' W', finishE 0 H G W v = (v, H', W') ∧ Grw H H' W' ∧ (∀ x ∈ W', x ∈ W ∧ x < H.length) ∧ ∀ x < H.length, H'[x]? = G[x]? := by
  cases hw : W.filter (· < H.length) with
  | nil =>
    refine ⟨H, [], by rw [finish0 hw, hv], .refl, fun x hx => (by cases hx), fun x hx => (hg.2 x hx fun hm => ?_).symm⟩
    have : x ∈ W.filter (· < H.length) := List.mem_filter.2 ⟨hm, by simpa using hx⟩
    rw [hw] at this
    cases this
  | cons w ws =>
    refine ⟨G, w :: ws, finish0_w hw, ?_, fun x hx => ?_, fun x hx => rfl⟩
    · rw [← hw]; exact hg.filter
    · rw [← hw] at hx
      have := List.mem_filter.1 hx
      exact ⟨this.1, by simpa using this.2⟩

/-- A call of a narrower's method, at so many variables that are gone through. -/
def NSpec (g : List GN) (kg : Cap) (key : Str) (sh : GN) (tb : List (Int × Nat)) (f : Nat) (R : List Int → DM → Int → BB × DM) (k : Nat) (ok : Int → Prop) : Prop :=
  ∀ (H : Heap) (o t : Nat) (op : List Int) (ko : Cap) (dv : EV) (d : DM) (n : Int), g.length ≤ op.length + k → op.Nodup → (∀ x ∈ op, 0 ≤ x ∧ x < (g.length : Int)) → ok n → NP g kg key sh tb o t op dv d H →
    CallW ep dQ f [.ptr o 0, .int .i64 n, .fz (ints op) ko] H (NQ g kg key sh o t op dv H (R op d n))
def inG (g : List GN) (n : Int) : Prop := 0 ≤ n ∧ n < (g.length : Int)

theorem NP.app {g kg key sh tb o t op dv d H} (h : NP g kg key sh tb o t op dv d H) (l : Heap) : NP g kg key sh tb o t op dv d (H ++ l) :=
  ⟨app_get h.obj l, app_get h.tab l, fun hop => by
    obtain ⟨q, h1, h2, h3, h4⟩ := h.don hop
    exact ⟨q, h1, h2, h3, app_get h4 l⟩⟩
theorem NQ.still {g kg key sh tb o t op dv d H} (h : NP g kg key sh tb o t op dv d H) (b : BB) : NQ g kg key sh o t op dv H (b, d) (.agg [.bool b.1, .bool b.2]) H [] :=
  ⟨rfl, .refl, fun x hx => (by cases hx), dv, h.obj, fun _ => rfl, h.don⟩
theorem NQ.done {g kg key sh tb o t op dv d H l r v H1 W1} (hp : NP g kg key sh tb o t op dv d H) (q : NQ g kg key sh o t op dv (H ++ l) r v H1 W1) {G : Heap} {W : List Nat} (hl : H.length ≤ G.length) (hG : ∀ x < H.length, G[x]? = H1[x]?) (hW : ∀ x ∈ W, x < H.length → x ∈ W1) (hW1 : ∀ x ∈ W1, x ∈ W) :
    NQ g kg key sh o t op dv H r (finishE 0 H G W (.agg [.bool r.1.1, .bool r.1.2])).1 (finishE 0 H G W (.agg [.bool r.1.1, .bool r.1.2])).2.1 (finishE 0 H G W (.agg [.bool r.1.1, .bool r.1.2])).2.2 := by
  obtain ⟨H', W', h1, h2, h3, h4⟩ := fin0 (H := H) (G := G) (W := W) (v := .agg [.bool r.1.1, .bool r.1.2]) rfl ⟨hl, fun x hx hn => by
    rw [hG x hx, q.grw.2 x (by simp; omega) (fun e => hn (hW1 x e)), List.getElem?_append_left hx]⟩
  rw [h1]
  have hlt : o < H.length := (List.getElem?_eq_some_iff.1 hp.obj).1
  refine ⟨rfl, h2, fun x hx => q.wrt x (hW x (h3 x hx).1 (h3 x hx).2), ?_⟩
  obtain ⟨dv', h5, h6, h7⟩ := q.st
  refine ⟨dv', by rw [h4 o hlt, hG o hlt]; exact h5, h6, fun hop => ?_⟩
  obtain ⟨q1, k1, k2, k3, k4⟩ := h7 hop
  obtain ⟨q2, j1, j2, j3, j4⟩ := hp.don hop
  have e := h6 hop
  rw [k1, j1] at e
  injection e with e
  subst e
  have hq : q1 < H.length := (List.getElem?_eq_some_iff.1 j4).1
  exact ⟨q1, k1, k2, k3, by rw [h4 q1 hq, hG q1 hq]; exact k4⟩
theorem one_of {g kg key sh tb} {leaf : Int → BB} {k : Nat} (hg : Fair g)
    (h1 : mget tb 1 = some 71) (h9 : mget tb 9 = some 72)
    (hv : NSpec g kg key sh tb 72 (oneF g leaf (deepF g leaf k)) k (fun m => inG g m ∧ (at0 g m).kind = 9))
    (hl : ∀ m, inG g m → (at0 g m).kind ≠ 1 → (at0 g m).kind ≠ 9 → ∃ f, ((mget tb (at0 g m).kind).isSome = true ∧ mget tb (at0 g m).kind = some f ∨ mget tb (at0 g m).kind = none ∧ mget tb 0 = some f) ∧ ∀ H o t dv op, H[o]? = some (.cells (nwCells g kg key sh (.map t) dv)) → CallR ep dQ f [.ptr o 0, .int .i64 m, op] H (.agg [.bool (leaf m).1, .bool (leaf m).2]) H []) :
    NSpec g kg key sh tb 74 (oneF g leaf (deepF g leaf k)) k (inG g) := by
  intro H o t op ko dv d n hk hnd hop hn hp
  obtain ⟨i, rfl⟩ : ∃ i : Nat, n = i := ⟨n.toNat, by have := hn.1; omega⟩
  have hil : i < g.length := by have := hn.2; omega
  have hat := at0_nat hil
  have hlt : o < H.length := (List.getElem?_eq_some_iff.1 hp.obj).1
  have ho := app_get hp.obj
  have ht := app_get hp.tab
  unfold nwCells at ho
  have hlook := fun (l : Heap) (x : Int) => look_M (H := H ++ l) (m := tb) (x := x) (ev := fun f => EV.fn f [.ptr o 0] []) (mm := .map t) (ok := false) eq_num ty_71 ty_99 (key_num x) (by simp only [entriesE, ht]; rfl) rfl
  simp only [ekI] at hlook
  have fin : ∀ f v H1 W1, CallR ep dQ f [.ptr o 0, .int .i64 i, .fz (ints op) ko] (H ++ [.cells [.bool false, .bool false]]) v H1 W1 → NQ g kg key sh o t op dv (H ++ [.cells [.bool false, .bool false]]) (oneF g leaf (deepF g leaf k) op d i) v H1 W1 → (mget tb (at0 g i).kind = some f ∨ mget tb (at0 g i).kind = none ∧ mget tb 0 = some f) →
      CallW ep dQ 74 [.ptr o 0, .int .i64 i, .fz (ints op) ko] H (NQ g kg key sh o t op dv H (oneF g leaf (deepF g leaf k) op d i)) := by
    intro f v H1 W1 hc hq hf
    have hcv := hc.val
    have hv := hq.val
    subst hv
    have hH1 : H.length < H1.length := by
      have := hq.grw.1
      simp at this
      omega
    have h1at : H1[H.length]? = some (.cells [.bool false, .bool false]) := by
      rw [hq.grw.2 H.length (by simp) (fun hm => ?_)]
      · simp
      · rcases hq.wrt _ hm with ⟨_, e⟩ | ⟨e1, e2⟩
        · omega
        · obtain ⟨q', h4, _, h5, h6⟩ := hp.don e1
          rw [e2] at h4
          injection h4 with h4
          have := (List.getElem?_eq_some_iff.1 h6).1
          omega
    have h2at : ∀ x, (H1.set H.length x)[H.length]? = some x := fun x => by rw [List.getElem?_set, if_pos rfl, if_pos hH1]
    have hend := NQ.done hp hq (G := H1.set H.length (.cells [.bool (oneF g leaf (deepF g leaf k) op d i).1.1, .bool (oneF g leaf (deepF g leaf k) op d i).1.2])) (W := W1 ++ [H.length]) (by simp; omega) (fun x hx => by rw [List.getElem?_set, if_neg (by omega)]) (fun x hx hl => by
      rcases List.mem_append.1 hx with hx | hx
      · exact hx
      · simp at hx; omega) (fun x hx => List.mem_append_left _ hx)
    rw [hat] at hf
    refine CallW.body rfl fn_74 (by unfold Tryd.f74; rfl) (by rfl) (by unfold Tryd.f74; simp) ?_
    unfold Tryd.f74
    rcases hf with hf | ⟨hf, hf0⟩
    · simp (config := { contextual := true, maxSteps := 1000000 }) [-Int.not_le, -Int.not_lt, -Nat.not_le, -Nat.not_lt, ho, hlook, hil]
      refine ⟨by kernel_rfl, ?_⟩
      simp (config := { contextual := true, maxSteps := 1000000 }) [-Int.not_le, -Int.not_lt, -Nat.not_le, -Nat.not_lt, hf, neq_fn, ty_99, hcv, h1at, h2at]
      exact hend
    · simp (config := { contextual := true, maxSteps := 1000000 }) [-Int.not_le, -Int.not_lt, -Nat.not_le, -Nat.not_lt, ho, hlook, hil]
      refine ⟨by kernel_rfl, ?_⟩
      simp (config := { contextual := true, maxSteps := 1000000 }) [-Int.not_le, -Int.not_lt, -Nat.not_le, -Nat.not_lt, hf, hf0, neq_nilf, ty_99, hcv, h1at, h2at, ho, hlook]
      exact hend
  by_cases hk1 : (at0 g i).kind = 1
  · refine fin 71 _ _ _ (dyn_ok _ _ _ _) ?_ (.inl (by rw [hk1]; exact h1))
    have := NQ.still (hp.app [.cells [.bool false, .bool false]]) (true, true)
    simpa [oneF, hk1] using this
  by_cases hk9 : (at0 g i).kind = 9
  · obtain ⟨v, H1, W1, hc, hq⟩ := hv _ o t op ko dv d i hk hnd hop ⟨hn, hk9⟩ (hp.app [.cells [.bool false, .bool false]])
    exact fin _ v H1 W1 hc hq (.inl (by rw [hk9]; exact h9))
  · obtain ⟨f, hf, hc⟩ := hl i hn hk1 hk9
    refine fin f _ _ _ (hc _ o t dv _ (app_get hp.obj _)) ?_ (hf.elim (fun h => .inl h.2) .inr)
    have := NQ.still (hp.app [.cells [.bool false, .bool false]]) (leaf i)
    simpa [oneF, hk1, hk9] using this

/-- The folding, so far. -/
theorem foldF_take {one : DM → Int → BB × DM} {l : List Int} {d : DM} {i : Nat} (h : i < l.length) : foldF one (l.take (i + 1)) d = (orB (foldF one (l.take i) d).1 (one (foldF one (l.take i) d).2 l[i]).1, (one (foldF one (l.take i) d).2 l[i]).2) := by
  unfold foldF
  rw [List.take_add_one, List.foldl_append, List.getElem?_eq_getElem h]
  rfl
/-- While a narrower's call is under way: its own cells lie at the heap's old end. -/
structure NI (g : List GN) (kg : Cap) (key : Str) (sh : GN) (tb : List (Int × Nat)) (o t : Nat) (op : List Int) (dv : EV) (H : Heap) (d' : DM) (b : BB) (G : Heap) (W : List Nat) : Prop where
  grw : Grw H G W
  len : H.length < G.length
  wrt : ∀ x ∈ W, x < H.length → Wok op o dv x
  own : G[H.length]? = some (.cells [.bool b.1, .bool b.2])
  np : ∃ dv', (op ≠ [] → dv' = dv) ∧ NP g kg key sh tb o t op dv' d' G
theorem Wok.to {op o dv dv' x} (h : Wok op o dv' x) (e : op ≠ [] → dv' = dv) : Wok op o dv x := by
  rcases h with h | ⟨h1, h2⟩
  · exact .inl h
  · exact .inr ⟨h1, by rw [← e h1]; exact h2⟩
theorem NP.keep {g kg key sh tb o t op dv d H} (h : NP g kg key sh tb o t op dv d H) {X : Heap} {p : Nat} {cs : List EV} (hp : H[p]? = some (.cells cs)) (ho : o ≠ p) (hX : ∀ y z, H[y]? = some z → y ≠ p → X[y]? = some z) : NP g kg key sh tb o t op dv d X := by
  refine ⟨hX _ _ h.obj ho, hX _ _ h.tab (fun e => ?_), fun hop => ?_⟩
  · have := h.tab
    rw [e, hp] at this
    injection this with this
    cases this
  · obtain ⟨q, h1, h2, h3, h4⟩ := h.don hop
    refine ⟨q, h1, h2, h3, hX _ _ h4 (fun e => ?_)⟩
    rw [e, hp] at h4
    injection h4 with h4
    cases h4
theorem NI.own1 {g kg key sh tb o t op dv H d1 b G W} (hN : NI g kg key sh tb o t op dv H d1 b G W) (hlt : o < H.length) {dv' rb v H1 W1} (hnp : NP g kg key sh tb o t op dv' d1 G) (hq : NQ g kg key sh o t op dv' G rb v H1 W1) : H1[H.length]? = some (.cells [.bool b.1, .bool b.2]) := by
  rw [hq.grw.2 H.length hN.len (fun hm => ?_)]
  · exact hN.own
  · rcases hq.wrt _ hm with ⟨_, e⟩ | ⟨e1, e2⟩
    · omega
    · obtain ⟨q', h4, _, h5, h6⟩ := hnp.don e1
      rw [e2] at h4
      injection h4 with h4
      subst h4
      rw [hN.own] at h6
      injection h6 with h6
      cases h6
theorem NI.step {g kg key sh tb o t op dv H d1 b G W} (hN : NI g kg key sh tb o t op dv H d1 b G W) (hlt : o < H.length) {dv' rb rd v H1 W1} (hdv : op ≠ [] → dv' = dv) (hnp : NP g kg key sh tb o t op dv' d1 G) (hq : NQ g kg key sh o t op dv' G (rb, rd) v H1 W1) (x : EO) (b' : BB) (W2 : List Nat) (hW2 : ∀ y ∈ W2, H.length ≤ y) :
    NI g kg key sh tb o t op dv H rd b' ((H1 ++ [x]).set H.length (.cells [.bool b'.1, .bool b'.2])) (W ++ (W1 ++ W2)) := by
  have how := hN.own1 hlt hnp hq
  have hl := (List.getElem?_eq_some_iff.1 how).1
  have hlen := hN.len
  have hg := hN.grw.trans hq.grw
  have hX : ∀ y z, H1[y]? = some z → y ≠ H.length → ((H1 ++ [x]).set H.length (.cells [.bool b'.1, .bool b'.2]))[y]? = some z := fun y z hy hne => by
    rw [List.getElem?_set, if_neg (fun e => hne e.symm)]
    exact app_get hy _
  obtain ⟨dv2, h1, h2⟩ := hq.np hnp
  refine ⟨⟨by simp; omega, fun y hy hn => ?_⟩, by simp; omega, fun y hy hyl => ?_, by rw [List.getElem?_set, if_pos rfl, if_pos (by simp; omega)], dv2, fun e => (h1 e).trans (hdv e), h2.keep how (by omega) hX⟩
  · rw [List.getElem?_set, if_neg (by omega), List.getElem?_append_left (by omega)]
    exact hg.2 y hy (fun e => hn (by
      rcases List.mem_append.1 e with e | e
      · exact List.mem_append_left _ e
      · exact List.mem_append_right _ (List.mem_append_left _ e)))
  · rcases List.mem_append.1 hy with hy | hy
    · exact hN.wrt y hy hyl
    · rcases List.mem_append.1 hy with hy | hy
      · exact (hq.wrt y hy).to hdv
      · have := hW2 y hy
        omega
theorem NI.done {g kg key sh tb o t op dv H d d1 b G W} (hp : NP g kg key sh tb o t op dv d H) (hN : NI g kg key sh tb o t op dv H d1 b G W) (W2 : List Nat) (hW2 : ∀ y ∈ W2, H.length ≤ y) :
    NQ g kg key sh o t op dv H (b, d1) (finishE 0 H G (W ++ W2) (.agg [.bool b.1, .bool b.2])).1 (finishE 0 H G (W ++ W2) (.agg [.bool b.1, .bool b.2])).2.1 (finishE 0 H G (W ++ W2) (.agg [.bool b.1, .bool b.2])).2.2 := by
  obtain ⟨H', W', h1, h2, h3, h4⟩ := fin0 (H := H) (G := G) (W := W ++ W2) (v := .agg [.bool b.1, .bool b.2]) rfl ⟨hN.grw.1, fun x hx hn => hN.grw.2 x hx (fun e => hn (List.mem_append_left _ e))⟩
  rw [h1]
  have hlt : o < H.length := (List.getElem?_eq_some_iff.1 hp.obj).1
  obtain ⟨dv', h5, h6⟩ := hN.np
  refine ⟨rfl, h2, fun x hx => ?_, dv', by rw [h4 o hlt]; exact h6.obj, h5, fun hop => ?_⟩
  · obtain ⟨h7, h8⟩ := h3 x hx
    rcases List.mem_append.1 h7 with h7 | h7
    · exact hN.wrt x h7 h8
    · have := hW2 x h7
      omega
  · obtain ⟨q1, k1, k2, k3, k4⟩ := h6.don hop
    obtain ⟨q2, j1, j2, j3, j4⟩ := hp.don hop
    have e := h5 hop
    rw [k1, j1] at e
    injection e with e
    subst e
    have hq : q1 < H.length := (List.getElem?_eq_some_iff.1 j4).1
    exact ⟨q1, k1, k2, k3, by rw [h4 q1 hq]; exact k4⟩
theorem looked_of {g kg key sh tb} {leaf : Int → BB} {k : Nat} (hg : Fair g) (hmi : ∀ n, ∀ m ∈ members g n, inG g m) 
    (hone : NSpec g kg key sh tb 74 (oneF g leaf (deepF g leaf k)) k (inG g)) :
    NSpec g kg key sh tb 99 (lookF g leaf k) k (fun _ => True) := by
  intro H o t op ko dv d n hk hnd hop _ hp
  have hlt : o < H.length := (List.getElem?_eq_some_iff.1 hp.obj).1
  have ho := app_get hp.obj
  unfold nwCells at ho
  have hm := fun G' => (members_ok g kg n G' hg).val
  refine CallW.body rfl fn_99 (by unfold Tryd.f99; rfl) (by rfl) (by unfold Tryd.f99; simp) ?_
  unfold Tryd.f99
  simp (config := { contextual := true, maxSteps := 1000000 }) [-Int.not_le, -Int.not_lt, -Nat.not_le, -Nat.not_lt, ho, hm]
  refine LoopI.inv (fun s : Nat × Heap => [(0, .ptr o 0), (2, .fz (ints op) ko), (6, .ptr H.length 0), (15, .fz (ints (members g n)) .no), (16, .int .i64 (members g n).length), (17, .int .i64 s.1)]) (fun s => s.2)
    (fun s W => s.1 ≤ (members g n).length ∧ NI g kg key sh tb o t op dv H (foldF (oneF g leaf (deepF g leaf k) op) ((members g n).take s.1) d).2 (foldF (oneF g leaf (deepF g leaf k) op) ((members g n).take s.1) d).1 s.2 W) (fun s => (members g n).length - s.1) (0, H ++ [.cells [.bool false, .bool false]]) ?_ ?_
  · simp
    refine ⟨Grw.app, by simp, fun x hx => (by cases hx), by simp [foldF], dv, fun _ => rfl, hp.app _⟩
  rintro ⟨i, G⟩ W ⟨hi, hN⟩
  dsimp only at hi hN
  have hw := wrap_succ (i := i) (by have := members_len hg n; omega)
  by_cases hi' : i < (members g n).length
  · have hstep := foldF_take (one := oneF g leaf (deepF g leaf k) op) (d := d) hi'
    rcases hF : foldF (oneF g leaf (deepF g leaf k) op) ((members g n).take i) d with ⟨b, d1⟩
    rw [hF] at hN hstep
    obtain ⟨dv', hdv, hnp⟩ := hN.np
    obtain ⟨v, H1, W1, hc, hq⟩ := hone G o t op ko dv' d1 (members g n)[i] hk hnd hop (hmi n _ (List.getElem_mem hi')) hnp
    have hv := hq.val
    rcases hr : oneF g leaf (deepF g leaf k) op d1 (members g n)[i] with ⟨rb, rd⟩
    rw [hr] at hq hv hstep
    subst hv
    have hcv := hc.val
    have hlen : G.length ≤ H1.length := hq.grw.1
    have how1 := hN.own1 hlt hnp hq
    have hs := fun b' => hN.step hlt hdv hnp hq (.cells [.bool rb.1, .bool rb.2]) b' [H1.length, H.length, H.length] (by have := hN.len; simp; omega)
    have howa := app_get how1
    simp (config := { contextual := true, maxSteps := 1000000 }) [-Int.not_le, -Int.not_lt, -Nat.not_le, -Nat.not_lt, hw, hi', hcv]
    refine ⟨by kernel_rfl, draw2R_of [.p true, .p true, .p true, .p true, .p true, .p true, .p true, .p true, .p true, .p false, .p false, .p false, .p true, .a [], .p false, .a []] [] (by kernel_rfl) (by kernel_rfl) [H.length] ?_⟩
    have hl1 : H.length ≤ H1.length := by have := hN.len; omega
    have hl2 : H.length < H1.length + 1 := by omega
    have hne : ¬ H1.length = H.length := fun e => by have := hN.len; omega
    have hne2 : ¬ H.length = H1.length := fun e => hne e.symm
    obtain ⟨b1, b2⟩ := b
    obtain ⟨r1, r2⟩ := rb
    cases b1 <;> cases b2
    all_goals
      simp (config := { contextual := true, maxSteps := 1000000 }) [-Int.not_le, -Int.not_lt, -Nat.not_le, -Nat.not_lt, ↓howa, hl1, hl2, hne, hne2]
      refine ⟨i + 1, by omega, _, ⟨by omega, ?_⟩, rfl, by simp [hw]⟩
      rw [hstep]
      exact hs _
  · have hie : i = (members g n).length := by omega
    subst hie
    rw [List.take_length] at hN
    rw [lookF_eq]
    obtain ⟨dv', hdv, hnp⟩ := hN.np
    have hgw := hN.own
    have hss := set_same hgw
    have hd := NI.done hp hN [H.length] (by simp)
    simp (config := { contextual := true, maxSteps := 1000000 }) [-Int.not_le, -Int.not_lt, -Nat.not_le, -Nat.not_lt, hw, ↓hgw, hss]
    exact hd
end Go.Ev
end
