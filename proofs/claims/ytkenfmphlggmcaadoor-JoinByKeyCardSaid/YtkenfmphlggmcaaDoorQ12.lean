/- What searches, comparisons and copies of slices compute. -/
import Derived.Test.YtkenfmphlggmcaaDoorQ11

section
namespace Go.Ev
open Go Go.Proofs
set_option linter.unusedSimpArgs false
set_option linter.unusedVariables false
set_option maxRecDepth 100000

theorem app_ints {G : Heap} {l m : List Int} {k k' : Cap} (hm : m ≠ []) (hb : l.length + m.length ≤ 1000000) (hk : Own 1 G l.length k) :
    appendE ep.T true G 23 23 (.fz (ints l) k) (.fz (ints m) k') = some (.fz (ints (l ++ m)) (.tok G.length), killH G k ++ [.tip (l.length + m.length)], killW k) := by
  have := append_own (T := ep.T) (st := 23) (xt := 23) (z := 1) (G := G) (es := ints l) (xs := ints m) (ys := ints m) (k := k) (k' := k') ⟨_, _, _, _, _, ty_23⟩ ⟨_, _, _, _, _, ty_23⟩ ty_3 rfl (by cases m with | nil => exact absurd rfl hm | cons a m => simp [ints]) ints_rows ints_ones ints_still ints_rows (by simp; omega) (by simpa using hk)
  simpa using this
theorem app_int {G : Heap} {l : List Int} {x : Int} {k k' : Cap} (hb : l.length + 1 ≤ 1000000) (hk : Own 1 G l.length k) :
    appendE ep.T true G 23 23 (.fz (ints l) k) (.fz [[.int .i64 x]] k') = some (.fz (ints (l ++ [x])) (.tok G.length), killH G k ++ [.tip (l.length + 1)], killW k) := app_ints (m := [x]) (by simp) hb hk
theorem app_ints_nil {G : Heap} {m : List Int} {k' : Cap} (hm : m ≠ []) (hb : m.length ≤ 1000000) :
    appendE ep.T true G 23 23 (.fz [] .tight) (.fz (ints m) k') = some (.fz (ints m) (.tok G.length), G ++ [.tip m.length], []) := by
  have := app_ints (G := G) (l := []) (k := .tight) (k' := k') hm (by simpa using hb) trivial
  simpa using this
theorem app_strs {G : Heap} {l m : List Str} {k k' : Cap} (hm : m ≠ []) (hb : l.length + m.length ≤ 1000000) (hk : Own 1 G l.length k) :
    appendE ep.T true G 42 42 (.fz (strs l) k) (.fz (strs m) k') = some (.fz (strs (l ++ m)) (.tok G.length), killH G k ++ [.tip (l.length + m.length)], killW k) := by
  have := append_own (T := ep.T) (st := 42) (xt := 42) (z := 1) (G := G) (es := strs l) (xs := strs m) (ys := strs m) (k := k) (k' := k') ⟨_, _, _, _, _, ty_42⟩ ⟨_, _, _, _, _, ty_42⟩ ty_9 rfl (by cases m with | nil => exact absurd rfl hm | cons a m => simp [strs]) strs_rows strs_ones strs_still strs_rows (by simp; omega) (by simpa using hk)
  simpa using this
theorem app_strs_nil {G : Heap} {m : List Str} {k' : Cap} (hm : m ≠ []) (hb : m.length ≤ 1000000) :
    appendE ep.T true G 42 42 (.fz [] .tight) (.fz (strs m) k') = some (.fz (strs m) (.tok G.length), G ++ [.tip m.length], []) := by
  have := app_strs (G := G) (l := []) (k := .tight) (k' := k') hm (by simpa using hb) trivial
  simpa using this
/-- The room of a copy, and the heap behind it. -/
def cloneK (H : Heap) {α : Type} (l : List α) : Cap := if l = [] then .tight else .tok H.length
def cloneH (H : Heap) {α : Type} (l : List α) : Heap := if l = [] then H else H ++ [.tip l.length]
theorem clone_own {H : Heap} {α : Type} {l : List α} : Own 1 (cloneH H l) l.length (cloneK H l) := by
  unfold cloneK cloneH
  split <;> simp [Own]
theorem frzA_clone {H G : Heap} {α : Type} {l : List α} {es : List (List EV)} {base : Nat} {ban : Option Nat} (h : base ≤ H.length) : frzA G base ban freezeDepth (.fz es (cloneK H l)) = some (.fz es .no) := by
  unfold cloneK
  split
  · rfl
  · exact frzA_tok h
@[simp] theorem frzV_clone {H G : Heap} {α : Type} {l : List α} {es : List (List EV)} {base : Nat} {ban : Option Nat} (h : base ≤ H.length) : frzV G base ban freezeDepth (.fz es (cloneK H l)) = some (.fz es .no) := by
  unfold cloneK
  split
  · rfl
  · exact frzV_tok h
@[simp] theorem frzT_clone {H G : Heap} {α : Type} {l : List α} {es : List (List EV)} {base : Nat} (h : base ≤ H.length) : frzT G base freezeDepth (.fz es (cloneK H l)) = some (.fz es .no) := by
  unfold cloneK
  split
  · rfl
  · exact frzT_tok h
theorem cloneI_ok (l : List Int) (k : Cap) (H : Heap) (hl : l.length ≤ 1000000) : CallR ep dQ 50 [.fz (ints l) k] H (.fz (ints l) (cloneK H l)) (cloneH H l) [] := by
  cases l with
  | nil => exact CallR.told rfl
  | cons a l =>
    refine CallW.is (CallW.body rfl fn_50 (by unfold Tryd.f50; rfl) (by rfl) (by unfold Tryd.f50; simp) ?_)
    unfold Tryd.f50
    have h := app_ints_nil (G := H) (m := a :: l) (k' := k) (by simp) hl
    rw [show ints (a :: l) = [.int .i64 a] :: ints l from rfl] at h ⊢
    have hf := finish2_tok (H := H) (H1 := H ++ [.tip (a :: l).length]) (W := []) (es := [.int .i64 a] :: ints l) (o := H.length) (m := (a :: l).length) rfl (Nat.le_refl _) (by simp)
    simp (config := { contextual := true, maxSteps := 1000000 }) [-Int.not_le, -Int.not_lt, -Nat.not_le, -Nat.not_lt, h]
    simp only [List.length_cons] at hf
    rw [hf]
    simp [cloneK, cloneH]
theorem cloneS_ok (l : List Str) (k : Cap) (H : Heap) (hl : l.length ≤ 1000000) : CallR ep dQ 55 [.fz (strs l) k] H (.fz (strs l) .no) H [] := by
  cases l with
  | nil => exact CallR.told rfl
  | cons a l =>
    refine CallW.is (CallW.body rfl fn_55 (by unfold Tryd.f55; rfl) (by rfl) (by unfold Tryd.f55; simp) ?_)
    unfold Tryd.f55
    have h := app_strs_nil (G := H) (m := a :: l) (k' := k) (by simp) hl
    rw [show strs (a :: l) = [.str a] :: strs l from rfl] at h ⊢
    simp (config := { contextual := true, maxSteps := 1000000 }) [-Int.not_le, -Int.not_lt, -Nat.not_le, -Nat.not_lt, h]
theorem indexI_ok (l : List Int) (k : Cap) (x : Int) (H : Heap) (hl : l.length < 2 ^ 62) : CallR ep dQ 93 [.fz (ints l) k, .int .i64 x] H (.int .i64 (idx (x == ·) l)) H [] := by
  refine CallW.is (CallW.body rfl fn_93 (by unfold Tryd.f93; rfl) (by rfl) (by unfold Tryd.f93; simp) ?_)
  unfold Tryd.f93
  simp (config := { contextual := true, maxSteps := 1000000 }) [-Int.not_le, -Int.not_lt, -Nat.not_le, -Nat.not_lt]
  refine LoopI.inv (fun i : Nat => [(0, .fz (ints l) k), (1, .int .i64 x), (7, .int .i64 l.length), (8, .int .i64 i)]) (fun _ => H) (fun i W => W = [] ∧ i ≤ l.length ∧ ∀ (j : Nat) (h : j < l.length), j < i → (x == l[j]) = false) (fun i => l.length - i) 0 (by simp) ?_
  rintro i W ⟨rfl, hi, hj⟩
  have hw := wrap_succ (i := i) (by omega)
  simp (config := { contextual := true, maxSteps := 1000000 }) [-Int.not_le, -Int.not_lt, -Nat.not_le, -Nat.not_lt, hw]
  refine ⟨fun h => ⟨fun h1 => ?_, fun h1 => ⟨i + 1, by omega, ⟨h, fun j hjl hji => ?_⟩, by simp⟩⟩, fun h => (idx_none fun j hjl => hj j hjl (by omega)).symm⟩
  · rw [← h1]
    exact (idx_at hj h (by simp [h1])).symm
  · rcases Nat.lt_or_eq_of_le (Nat.le_of_lt_succ hji) with h2 | h2
    · simpa using hj j hjl h2
    · subst h2; exact h1
theorem containsI_ok (l : List Int) (k : Cap) (x : Int) (H : Heap) (hl : l.length < 2 ^ 62) : CallR ep dQ 61 [.fz (ints l) k, .int .i64 x] H (.bool (l.contains x)) H [] := by
  refine CallW.is (CallW.body rfl fn_61 (by unfold Tryd.f61; rfl) (by rfl) (by unfold Tryd.f61; simp) ?_)
  unfold Tryd.f61
  simp (config := { contextual := true, maxSteps := 1000000 }) [-Int.not_le, -Int.not_lt, -Nat.not_le, -Nat.not_lt, (indexI_ok l k x H hl).val, idx_any]
  rw [Bool.eq_iff_iff]; simp
theorem indexS_ok (l : List Str) (k : Cap) (x : Str) (H : Heap) (hl : l.length < 2 ^ 62) : CallR ep dQ 127 [.fz (strs l) k, .str x] H (.int .i64 (idx (x == ·) l)) H [] := by
  refine CallW.is (CallW.body rfl fn_127 (by unfold Tryd.f127; rfl) (by rfl) (by unfold Tryd.f127; simp) ?_)
  unfold Tryd.f127
  simp (config := { contextual := true, maxSteps := 1000000 }) [-Int.not_le, -Int.not_lt, -Nat.not_le, -Nat.not_lt]
  refine LoopI.inv (fun i : Nat => [(0, .fz (strs l) k), (1, .str x), (7, .int .i64 l.length), (8, .int .i64 i)]) (fun _ => H) (fun i W => W = [] ∧ i ≤ l.length ∧ ∀ (j : Nat) (h : j < l.length), j < i → (x == l[j]) = false) (fun i => l.length - i) 0 (by simp) ?_
  rintro i W ⟨rfl, hi, hj⟩
  have hw := wrap_succ (i := i) (by omega)
  simp (config := { contextual := true, maxSteps := 1000000 }) [-Int.not_le, -Int.not_lt, -Nat.not_le, -Nat.not_lt, hw]
  refine ⟨fun h => ⟨fun h1 => ?_, fun h1 => ⟨i + 1, by omega, ⟨h, fun j hjl hji => ?_⟩, by simp⟩⟩, fun h => (idx_none fun j hjl => hj j hjl (by omega)).symm⟩
  · rw [← h1]
    exact (idx_at hj h (by simp [h1])).symm
  · rcases Nat.lt_or_eq_of_le (Nat.le_of_lt_succ hji) with h2 | h2
    · simpa using hj j hjl h2
    · subst h2; exact h1
theorem equalInts_ok (a b : List Int) (ka kb : Cap) (hsz : a.length < 2 ^ 62) (H : Heap) : CallR ep dQ 14 [.fz (ints a) ka, .fz (ints b) kb] H (.bool (a == b)) H [] := by
  refine CallW.is (CallW.body rfl fn_14 (by unfold Tryd.f14; rfl) (by rfl) (by unfold Tryd.f14; simp) ?_)
  unfold Tryd.f14
  simp (config := { contextual := true, maxSteps := 1000000 }) [-Int.not_le, -Int.not_lt, -Nat.not_le, -Nat.not_lt]
  refine ⟨fun h e => h (by rw [e]), fun hl => ?_⟩
  have hl' : b.length = a.length := by omega
  refine LoopI.inv (fun i : Nat => [(0, .fz (ints a) ka), (1, .fz (ints b) kb), (5, .int .i64 i)]) (fun _ => H) (fun i W => W = [] ∧ i ≤ a.length ∧ a.take i = b.take i) (fun i => a.length - i) 0 (by simp [hl']) ?_
  rintro i W ⟨rfl, hi, hp⟩
  have hw := wrap_succ (i := i) (by omega)
  simp (config := { contextual := true, maxSteps := 1000000 }) [-Int.not_le, -Int.not_lt, -Nat.not_le, -Nat.not_lt, hl', hw]
  refine ⟨fun hi => ⟨by kernel_rfl, fun hne e => hne (by subst e; rfl), fun he => ⟨i + 1, by omega, ⟨by omega, ?_⟩, by simp⟩⟩, fun hi => ?_⟩
  · rw [List.take_add_one, List.take_add_one, hp, List.getElem?_eq_getElem hi, List.getElem?_eq_getElem (by omega), he]
  · rw [List.take_of_length_le (by omega), List.take_of_length_le (by omega)] at hp
    exact hp
theorem equalTexts_ok (a b : List Str) (ka kb : Cap) (hsz : a.length < 2 ^ 62) (H : Heap) : CallR ep dQ 39 [.fz (strs a) ka, .fz (strs b) kb] H (.bool (a == b)) H [] := by
  refine CallW.is (CallW.body rfl fn_39 (by unfold Tryd.f39; rfl) (by rfl) (by unfold Tryd.f39; simp) ?_)
  unfold Tryd.f39
  simp (config := { contextual := true, maxSteps := 1000000 }) [-Int.not_le, -Int.not_lt, -Nat.not_le, -Nat.not_lt]
  refine ⟨fun h e => h (by rw [e]), fun hl => ?_⟩
  have hl' : b.length = a.length := by omega
  refine LoopI.inv (fun i : Nat => [(0, .fz (strs a) ka), (1, .fz (strs b) kb), (5, .int .i64 i)]) (fun _ => H) (fun i W => W = [] ∧ i ≤ a.length ∧ a.take i = b.take i) (fun i => a.length - i) 0 (by simp [hl']) ?_
  rintro i W ⟨rfl, hi, hp⟩
  have hw := wrap_succ (i := i) (by omega)
  simp (config := { contextual := true, maxSteps := 1000000 }) [-Int.not_le, -Int.not_lt, -Nat.not_le, -Nat.not_lt, hl', hw]
  refine ⟨fun hi => ⟨by kernel_rfl, fun hne e => hne (by subst e; rfl), fun he => ⟨i + 1, by omega, ⟨by omega, ?_⟩, by simp⟩⟩, fun hi => ?_⟩
  · rw [List.take_add_one, List.take_add_one, hp, List.getElem?_eq_getElem hi, List.getElem?_eq_getElem (by omega), he]
  · rw [List.take_of_length_le (by omega), List.take_of_length_le (by omega)] at hp
    exact hp
theorem equalI_ok (a b : List Int) (ka kb : Cap) (hsz : a.length < 2 ^ 62) (H : Heap) : CallR ep dQ 88 [.fz (ints a) ka, .fz (ints b) kb] H (.bool (a == b)) H [] := by
  refine CallW.is (CallW.body rfl fn_88 (by unfold Tryd.f88; rfl) (by rfl) (by unfold Tryd.f88; simp) ?_)
  unfold Tryd.f88
  simp (config := { contextual := true, maxSteps := 1000000 }) [-Int.not_le, -Int.not_lt, -Nat.not_le, -Nat.not_lt]
  refine ⟨fun h e => h (by rw [e]), fun hl => ?_⟩
  have hl' : b.length = a.length := by omega
  refine LoopI.inv (fun i : Nat => [(0, .fz (ints a) ka), (1, .fz (ints b) kb), (12, .int .i64 a.length), (13, .int .i64 i)]) (fun _ => H) (fun i W => W = [] ∧ i ≤ a.length ∧ a.take i = b.take i) (fun i => a.length - i) 0 (by simp [hl']) ?_
  rintro i W ⟨rfl, hi, hp⟩
  have hw := wrap_succ (i := i) (by omega)
  simp (config := { contextual := true, maxSteps := 1000000 }) [-Int.not_le, -Int.not_lt, -Nat.not_le, -Nat.not_lt, hl', hw]
  refine ⟨fun hi => ⟨by kernel_rfl, fun hne e => hne (by subst e; rfl), fun he => ⟨i + 1, by omega, ⟨by omega, ?_⟩, by simp⟩⟩, fun hi => ?_⟩
  · rw [List.take_add_one, List.take_add_one, hp, List.getElem?_eq_getElem hi, List.getElem?_eq_getElem (by omega), he]
  · rw [List.take_of_length_le (by omega), List.take_of_length_le (by omega)] at hp
    exact hp
theorem equalS_ok (a b : List Str) (ka kb : Cap) (hsz : a.length < 2 ^ 62) (H : Heap) : CallR ep dQ 87 [.fz (strs a) ka, .fz (strs b) kb] H (.bool (a == b)) H [] := by
  refine CallW.is (CallW.body rfl fn_87 (by unfold Tryd.f87; rfl) (by rfl) (by unfold Tryd.f87; simp) ?_)
  unfold Tryd.f87
  simp (config := { contextual := true, maxSteps := 1000000 }) [-Int.not_le, -Int.not_lt, -Nat.not_le, -Nat.not_lt]
  refine ⟨fun h e => h (by rw [e]), fun hl => ?_⟩
  have hl' : b.length = a.length := by omega
  refine LoopI.inv (fun i : Nat => [(0, .fz (strs a) ka), (1, .fz (strs b) kb), (12, .int .i64 a.length), (13, .int .i64 i)]) (fun _ => H) (fun i W => W = [] ∧ i ≤ a.length ∧ a.take i = b.take i) (fun i => a.length - i) 0 (by simp [hl']) ?_
  rintro i W ⟨rfl, hi, hp⟩
  have hw := wrap_succ (i := i) (by omega)
  simp (config := { contextual := true, maxSteps := 1000000 }) [-Int.not_le, -Int.not_lt, -Nat.not_le, -Nat.not_lt, hl', hw]
  refine ⟨fun hi => ⟨by kernel_rfl, fun hne e => hne (by subst e; rfl), fun he => ⟨i + 1, by omega, ⟨by omega, ?_⟩, by simp⟩⟩, fun hi => ?_⟩
  · rw [List.take_add_one, List.take_add_one, hp, List.getElem?_eq_getElem hi, List.getElem?_eq_getElem (by omega), he]
  · rw [List.take_of_length_le (by omega), List.take_of_length_le (by omega)] at hp
    exact hp
end Go.Ev
end

/- What the graph's own functions compute: Members, Check, Same. -/
section
namespace Go.Ev
open Go Go.Proofs
set_option linter.unusedSimpArgs false
set_option linter.unusedVariables false
set_option maxRecDepth 100000

/-- A node, at whatever place. -/
def at0 (g : List GN) (n : Int) : GN := g[n.toNat]?.getD default
/-- What a type is of. -/
def members (g : List GN) (n : Int) : List Int := if n < 0 ∨ (g.length : Int) ≤ n then [] else if (at0 g n).kind = 8 then (at0 g n).l else [n]
theorem at0_nat {g : List GN} {i : Nat} (h : i < g.length) : at0 g i = g[i] := by simp [at0, h]
theorem inside {g : List GN} {n : Int} (h : ¬ (n < 0 ∨ (g.length : Int) ≤ n)) : ∃ i : Nat, n = i ∧ i < g.length := ⟨n.toNat, by omega, by omega⟩
/-- A graph whose lists are no longer than lists can be in this machine. -/
def Fair (g : List GN) : Prop := g.length ≤ 1000000 ∧ ∀ n ∈ g, n.l.length ≤ 1000000 ∧ n.keys.length ≤ 1000000

theorem members_ok (g : List GN) (k : Cap) (n : Int) (H : Heap) (hg : Fair g) : CallR ep dQ 25 [.fz (nodes g) k, .int .i64 n] H (.fz (ints (members g n)) .no) H [] := by
  by_cases hn : n < 0 ∨ (g.length : Int) ≤ n
  · refine CallW.is (CallW.body rfl fn_25 (by unfold Tryd.f25; rfl) (by rfl) (by unfold Tryd.f25; simp) ?_)
    unfold Tryd.f25
    rcases hn with hn | hn
    · simp (config := { contextual := true, maxSteps := 1000000 }) [-Int.not_le, -Int.not_lt, -Nat.not_le, -Nat.not_lt, hn, members]
    · by_cases h0 : n < 0
      · simp (config := { contextual := true, maxSteps := 1000000 }) [-Int.not_le, -Int.not_lt, -Nat.not_le, -Nat.not_lt, h0, members]
      · simp (config := { contextual := true, maxSteps := 1000000 }) [-Int.not_le, -Int.not_lt, -Nat.not_le, -Nat.not_lt, hn, h0, members]
  · obtain ⟨i, rfl, hi⟩ := inside hn
    have h1 : ¬ (i : Int) < 0 := by omega
    have h2 : ¬ (g.length : Int) ≤ i := by omega
    have hm : members g i = if g[i].kind = 8 then g[i].l else [(i : Int)] := by simp only [members, if_neg hn, at0_nat hi]
    rw [hm]
    refine CallW.is (CallW.body rfl fn_25 (by unfold Tryd.f25; rfl) (by rfl) (by unfold Tryd.f25; simp) ?_)
    unfold Tryd.f25
    simp (config := { contextual := true, maxSteps := 1000000 }) [-Int.not_le, -Int.not_lt, -Nat.not_le, -Nat.not_lt, h1, h2, hi, (cloneI_ok g[i].l .no H (hg.2 _ (List.getElem_mem hi)).1).val]
    exact fun _ => rfl
theorem may1_ok (k : Int) (o : Nat) (g : List GN) (kg : Cap) (H : Heap) (ho : H[o]? = some (.cells [.fz (nodes g) kg])) : CallR ep dQ 76 [.int .i64 k, .ptr o 0] H (.bool (decide (k < 0) || decide ((g.length : Int) ≤ k))) H [] := by
  refine CallW.is (CallW.body rfl fn_76 (by unfold Tryd.f76; rfl) (by rfl) (by unfold Tryd.f76; simp) ?_)
  unfold Tryd.f76
  simp (config := { contextual := true, maxSteps := 1000000 }) [-Int.not_le, -Int.not_lt, -Nat.not_le, -Nat.not_lt, ho]
/-- What IsSortedFunc is told: rising? -/
def cmp2 (s t : Str) : Int := if s = t then -1 else if Op.bytesLess s t then -1 else 1
theorem may2_ok (s t : Str) (H : Heap) : CallR ep dQ 78 [.str s, .str t] H (.int .i64 (cmp2 s t)) H [] := by
  refine CallW.is (CallW.body rfl fn_78 (by unfold Tryd.f78; rfl) (by rfl) (by unfold Tryd.f78; simp) ?_)
  unfold Tryd.f78
  simp (config := { contextual := true, maxSteps := 1000000 }) [-Int.not_le, -Int.not_lt, -Nat.not_le, -Nat.not_lt, (compare_ok _ _ _).val, cmp2]
theorem may3_ok (s : Str) (H : Heap) : CallR ep dQ 81 [.str s] H (.bool (!isName s)) H [] := by
  refine CallW.is (CallW.body rfl fn_81 (by unfold Tryd.f81; rfl) (by rfl) (by unfold Tryd.f81; simp) ?_)
  unfold Tryd.f81
  simp (config := { contextual := true, maxSteps := 1000000 }) [-Int.not_le, -Int.not_lt, -Nat.not_le, -Nat.not_lt, (isName_ok _ _).val]
/-- Does each come behind the one ahead? -/
def risen (l : List Str) : Bool := (l.zip l.tail).all fun p => decide (¬ cmp2 p.2 p.1 < 0)
theorem risen_iff {l : List Str} : risen l = true ↔ ∀ (j : Nat) (h : j + 1 < l.length), ¬ cmp2 l[j + 1] l[j] < 0 := by
  unfold risen
  rw [List.all_eq_true]
  constructor
  · intro h j hj
    have := h (l[j], l[j + 1]) (by
      rw [List.mem_iff_getElem]
      exact ⟨j, by simp; omega, by simp⟩)
    simpa using this
  · rintro h ⟨a, b⟩ hp
    rw [List.mem_iff_getElem] at hp
    obtain ⟨j, hj, e⟩ := hp
    simp only [List.length_zip, List.length_tail] at hj
    simp only [List.getElem_zip, List.getElem_tail, Prod.mk.injEq] at e
    obtain ⟨rfl, rfl⟩ := e
    simpa using h j (by omega)
theorem isSorted_ok (l : List Str) (k : Cap) (H : Heap) (hl : l.length < 2 ^ 62) : CallR ep dQ 77 [.fz (strs l) k, .fn 78 [] []] H (.bool (risen l)) H [] := by
  refine CallW.is (CallW.body rfl fn_77 (by unfold Tryd.f77; rfl) (by rfl) (by unfold Tryd.f77; simp) ?_)
  unfold Tryd.f77
  have hw0 : IntKind.i64.wrap ((l.length : Int) - 1) = l.length - 1 := wrap64 (by omega) (by omega)
  simp (config := { contextual := true, maxSteps := 1000000 }) [-Int.not_le, -Int.not_lt, -Nat.not_le, -Nat.not_lt, hw0]
  refine LoopI.inv (fun i : Int => [(0, .fz (strs l) k), (1, .fn 78 [] []), (5, .int .i64 i)]) (fun _ => H) (fun i W => W = [] ∧ i < l.length ∧ ∀ (j : Nat) (h : j + 1 < l.length), i ≤ j → ¬ cmp2 l[j + 1] l[j] < 0) (fun i => i.toNat) ((l.length : Int) - 1) ⟨⟨rfl, by omega, fun j h h2 => by omega⟩, rfl, by simp⟩ ?_
  rintro i W ⟨rfl, hi, hj⟩
  by_cases hpos : 0 < i
  · obtain ⟨m, rfl⟩ : ∃ m : Nat, i = m + 1 := ⟨(i - 1).toNat, by omega⟩
    have hm1 : m + 1 < l.length := by omega
    have hm : m < l.length := by omega
    have hw1 : IntKind.i64.wrap (m : Int) = m := wrap64 (by omega) (by omega)
    have hn : ((m : Int) + 1).toNat = m + 1 := by omega
    have h0 : (0 : Int) ≤ m + 1 := by omega
    simp (config := { contextual := true, maxSteps := 1000000 }) [-Int.not_le, -Int.not_lt, -Nat.not_le, -Nat.not_lt, hpos, hm1, hm, hw1, hn, h0, (may2_ok _ _ _).val]
    refine ⟨by kernel_rfl, fun h => ?_, fun h => ⟨by omega, fun j h1 h2 => ?_⟩⟩
    · rw [Bool.eq_false_iff]
      intro hr
      exact absurd h (risen_iff.1 hr m hm1)
    · by_cases e : j = m
      · subst e; exact h
      · exact hj j h1 (by omega)
  · simp (config := { contextual := true, maxSteps := 1000000 }) [-Int.not_le, -Int.not_lt, -Nat.not_le, -Nat.not_lt, hpos]
    rw [risen_iff]
    exact fun j h1 => hj j h1 (by omega)
end Go.Ev
end

/- What the graph's check computes. -/
section
namespace Go.Ev
open Go Go.Proofs
set_option linter.unusedSimpArgs false
set_option linter.unusedVariables false
set_option maxRecDepth 100000
set_option maxHeartbeats 4000000

def outP (g : List GN) (k : Int) : Bool := decide (k < 0) || decide ((g.length : Int) ≤ k)
/-- May the plain parts of a node be? -/
def fitP (g : List GN) (n : GN) : Bool := !n.l.any (outP g) && (n.num == 0 || n.kind == 9) && (n.name == [] || n.kind == 5) && (n.keys == [] || n.kind == 7)
/-- May a node be? -/
def nodeOk (g : List GN) (n : GN) : Bool := fitP g n && (
  if n.kind = 1 ∨ n.kind = 2 ∨ n.kind = 3 ∨ n.kind = 4 then n.l == []
  else if n.kind = 5 then n.l == [] && (isName n.name || keyWords.contains n.name)
  else if n.kind = 7 then n.l.length == n.keys.length && decide (n.keys.length ≤ 16) && risen n.keys && n.keys.all isName
  else if n.kind = 8 then n.l.all (fun k => (at0 g k).kind != 8) && decide (2 ≤ n.l.length) && decide n.l.Nodup
  else if n.kind = 9 then decide (0 ≤ n.num) && decide (n.num < 16) && n.l.length == 1
  else false)

/-! ### maps from whole numbers to whole numbers -/
abbrev KV := List (Int × Int)
def encKV (m : KV) : List (EV × EV) := m.map fun p => (.int .i64 p.1, .int .i64 p.2)
def getV (m : KV) (x : Int) : Int := match m.find? (·.1 == x) with
  | some p => p.2
  | none => 0
def putV : KV → Int → Int → KV
  | [], x, v => [(x, v)]
  | p :: m, x, v => if p.1 = x then (x, v) :: m else p :: putV m x v
def keysV (m : KV) : List Int := m.map (·.1)
theorem putV_keys {m : KV} {x v y : Int} : y ∈ keysV (putV m x v) ↔ y = x ∨ y ∈ keysV m := by
  induction m with
  | nil => simp [putV, keysV]
  | cons p m ih =>
    simp only [putV, keysV, List.map_cons, List.mem_cons] at ih ⊢
    split
    · rename_i e
      simp only [List.map_cons, List.mem_cons, e]
      constructor
      · rintro (h | h)
        · exact .inl h
        · exact .inr (.inr h)
      · rintro (h | h | h)
        · exact .inl h
        · exact .inl h
        · exact .inr h
    · simp only [List.map_cons, List.mem_cons]
      rw [ih]
      constructor
      · rintro (h | h | h)
        · exact .inr (.inl h)
        · exact .inl h
        · exact .inr (.inr h)
      · rintro (h | h | h)
        · exact .inr (.inl h)
        · exact .inl h
        · exact .inr (.inr h)
theorem putV_length {m : KV} {x v : Int} : (putV m x v).length = if x ∈ keysV m then m.length else m.length + 1 := by
  induction m with
  | nil => simp [putV, keysV]
  | cons p m ih =>
    simp only [putV, keysV, List.map_cons, List.mem_cons] at ih ⊢
    split
    · rename_i e
      simp [e]
    · rename_i e
      simp only [List.length_cons, ih]
      by_cases h : x ∈ List.map (·.1) m
      · simp [h]
      · simp [h, show ¬ x = p.1 from fun h' => e h'.symm]
theorem eq_int {x y : Int} : eqE ep.T 3 (.int .i64 x) (.int .i64 y) = some (x == y) := by simp [eqE]
theorem find_kv {x : Int} : ∀ (m : KV) (i : Nat), ∃ r, findE ep.T 3 (.int .i64 x) (encKV m) i = some r ∧ (r = none → x ∉ keysV m ∧ m.find? (·.1 == x) = none) ∧ ∀ j e, r = some (j, e) → x ∈ keysV m ∧ i ≤ j ∧ e = .int .i64 (getV m x) ∧ ∀ v, (encKV m).set (j - i) (.int .i64 x, .int .i64 v) = encKV (putV m x v)
  | [], i => ⟨none, rfl, fun _ => ⟨by simp [keysV], rfl⟩, fun j e h => by cases h⟩
  | p :: m, i => by
    simp only [encKV, List.map_cons, findE, eq_int]
    by_cases h : x = p.1
    · subst h
      refine ⟨some (i, .int .i64 p.2), by simp, fun h => (by cases h), fun j e h => ?_⟩
      injection h with h; injection h with h1 h2
      subst h1; subst h2
      exact ⟨by simp [keysV], Nat.le_refl _, by simp [getV], fun v => by simp [putV]⟩
    · obtain ⟨r, h1, h2, h3⟩ := find_kv (x := x) m (i + 1)
      have hb : (x == p.1) = false := by simpa using h
      have hb' : (p.1 == x) = false := by simpa using fun e => h e.symm
      refine ⟨r, by simp only [hb]; exact h1, fun hr => ?_, fun j e hr => ?_⟩
      · obtain ⟨a, b⟩ := h2 hr
        exact ⟨by simp only [keysV, List.map_cons, List.mem_cons]; rintro (e | e); exact h e; exact a e, by rw [List.find?_cons, hb']; exact b⟩
      · obtain ⟨a, b, c, d⟩ := h3 j e hr
        refine ⟨by simp only [keysV, List.map_cons, List.mem_cons]; exact .inr a, by omega, by rw [c]; simp [getV, List.find?_cons, hb'], fun v => ?_⟩
        obtain ⟨k, hk⟩ : ∃ k, j - i = k + 1 := ⟨j - i - 1, by omega⟩
        have := d v
        rw [show j - (i + 1) = k by omega] at this
        rw [hk, List.set_cons_succ]
        simp only [encKV] at this
        rw [this]
        simp [putV, encKV, show ¬ p.1 = x from fun e => h e.symm]
theorem putV_new {m : KV} {x v : Int} (h : x ∉ keysV m) : putV m x v = m ++ [(x, v)] := by
  induction m with
  | nil => rfl
  | cons p m ih =>
    simp only [keysV, List.map_cons, List.mem_cons, not_or] at h
    simp only [putV]
    rw [if_neg (fun e => h.1 e.symm), ih h.2]
    rfl
theorem look_kv {H : Heap} {o : Nat} {m : KV} {x : Int} (h : H[o]? = some (.map (encKV m))) : lookupE ep.T H 108 (.map o) (.int .i64 x) false = some (.int .i64 (getV m x)) := by
  obtain ⟨r, h1, h2, h3⟩ := find_kv (x := x) m 0
  simp only [lookupE, ty_108, ty_3, keyOk, if_true, entriesE, h, h1]
  cases r with
  | none => simp [zeroE, getV, (h2 rfl).2]
  | some p =>
    obtain ⟨j, e⟩ := p
    simp [zeroE, (h3 j e rfl).2.2.1]
theorem upd_kv {H : Heap} {o : Nat} {m : KV} {x v : Int} (h : H[o]? = some (.map (encKV m))) : updateE ep.T H 108 (.map o) (.int .i64 x) (.int .i64 v) = some (H.set o (.map (encKV (putV m x v))), [o]) := by
  obtain ⟨r, h1, h2, h3⟩ := find_kv (x := x) m 0
  simp only [updateE, ty_108, keyOk, ty_3, if_true, h, h1]
  cases r with
  | none => simp [putV_new (h2 rfl).1, encKV]
  | some p =>
    obtain ⟨j, e⟩ := p
    have := (h3 j e rfl).2.2.2 v
    rw [Nat.sub_zero] at this
    simp only [this]
theorem containsName (l : List Str) (k : Cap) (H : Heap) (hl : l.length < 2 ^ 62) : CallR ep dQ 80 [.fz (strs l) k, .fn 81 [] []] H (.bool (l.any fun s => !isName s)) H [] :=
  containsFuncS_ok l k 81 [] [] (fun s => !isName s) H (fun x _ => may3_ok x H) hl
theorem may_ok (g : List GN) (n : GN) (kg kk kl : Cap) (H : Heap) (hg : Fair g) (hl : n.l.length ≤ 1000000) (hk : n.keys.length ≤ 1000000) :
    CallR ep dQ 49 [.fz (nodes g) kg, .agg [.int .i64 n.kind, .int .i64 n.num, .str n.name, .fz (strs n.keys) kk, .fz (ints n.l) kl]] H (.bool (nodeOk g n)) H [] := by
  have hc := fun k' => (containsFuncI_ok n.l k' 76 [] [.ptr H.length 0] (outP g) (H ++ [.cells [.fz (nodes g) kg], .cells [.int .i64 n.kind, .int .i64 n.num, .str n.name, .fz (strs n.keys) kk, .fz (ints n.l) kl]]) (fun x _ => may1_ok x H.length g kg _ (by simp)) (by omega)).val
  have hs := fun k' G => (isSorted_ok n.keys k' G (by omega)).val
  have hn := fun k' G => (containsName n.keys k' G (by omega)).val
  refine CallW.is (CallW.intro rfl fn_49 (by unfold Tryd.f49; rfl) (by rfl) (by unfold Tryd.f49; simp) ?_)
  unfold Tryd.f49
  refine CodeM.seq (codeP_ok ?_)
  simp (config := { contextual := true, maxSteps := 1000000 }) [-Int.not_le, -Int.not_lt, -Nat.not_le, -Nat.not_lt]
  refine CodeM.seq (codeP_ok ?_)
  simp (config := { contextual := true, maxSteps := 1000000 }) [-Int.not_le, -Int.not_lt, -Nat.not_le, -Nat.not_lt]
  refine CodeM.seq (codeP_ok ?_)
  simp (config := { contextual := true, maxSteps := 1000000 }) [-Int.not_le, -Int.not_lt, -Nat.not_le, -Nat.not_lt, hc]
  refine ⟨fun h => ?_, fun h1 h2 h3 h4 => codeP_ok ?_⟩
  · have hf : fitP g n = false := by
      rw [Bool.eq_false_iff]
      intro hf
      simp only [fitP, Bool.and_eq_true, Bool.or_eq_true, Bool.not_eq_true', List.any_eq_false, beq_iff_eq] at hf
      obtain ⟨⟨⟨a1, a2⟩, a3⟩, a4⟩ := hf
      rcases h with ((⟨x, hx, hx2⟩ | ⟨b1, b2⟩) | ⟨b1, b2⟩) | ⟨b1, b2⟩
      · exact a1 x hx hx2
      · exact a2.elim b1 b2
      · exact a3.elim b1 b2
      · rcases a4 with a4 | a4
        · rw [a4] at b1; simp at b1
        · exact b2 a4
    simp [nodeOk, hf]
  have hf : fitP g n = true := by
    simp only [fitP, Bool.and_eq_true, Bool.or_eq_true, Bool.not_eq_true', List.any_eq_false, beq_iff_eq]
    refine ⟨⟨⟨fun x hx => by simp [h1 x hx], ?_⟩, ?_⟩, ?_⟩
    · by_cases e : n.num = 0
      · exact .inl e
      · exact .inr (h2 e)
    · by_cases e : n.name = []
      · exact .inl e
      · exact .inr (h3 e)
    · by_cases e : n.keys = []
      · exact .inl e
      · exact .inr (h4 (List.length_pos_iff.2 e))
  by_cases k1 : n.kind = 1
  · simp (config := { contextual := true, maxSteps := 1000000 }) [-Int.not_le, -Int.not_lt, -Nat.not_le, -Nat.not_lt, k1]
    rw [Bool.eq_iff_iff]
    simp [nodeOk, hf, k1]
  by_cases k2 : n.kind = 2
  · simp (config := { contextual := true, maxSteps := 1000000 }) [-Int.not_le, -Int.not_lt, -Nat.not_le, -Nat.not_lt, k2]
    rw [Bool.eq_iff_iff]
    simp [nodeOk, hf, k2]
  by_cases k3 : n.kind = 3
  · simp (config := { contextual := true, maxSteps := 1000000 }) [-Int.not_le, -Int.not_lt, -Nat.not_le, -Nat.not_lt, k3]
    rw [Bool.eq_iff_iff]
    simp [nodeOk, hf, k3]
  by_cases k4 : n.kind = 4
  · simp (config := { contextual := true, maxSteps := 1000000 }) [-Int.not_le, -Int.not_lt, -Nat.not_le, -Nat.not_lt, k4]
    rw [Bool.eq_iff_iff]
    simp [nodeOk, hf, k4]
  by_cases k5 : n.kind = 5
  · simp (config := { contextual := true, maxSteps := 1000000 }) [-Int.not_le, -Int.not_lt, -Nat.not_le, -Nat.not_lt, k5, (isName_ok _ _).val, (isKey_ok _ _).val]
    rw [Bool.eq_iff_iff]
    simp [nodeOk, hf, k5]
  by_cases k7 : n.kind = 7
  · simp (config := { contextual := true, maxSteps := 1000000 }) [-Int.not_le, -Int.not_lt, -Nat.not_le, -Nat.not_lt, k7, hs, hn]
    rw [Bool.eq_iff_iff]
    simp [nodeOk, hf, k7]
    intros
    omega
  by_cases k9 : n.kind = 9
  · simp (config := { contextual := true, maxSteps := 1000000 }) [-Int.not_le, -Int.not_lt, -Nat.not_le, -Nat.not_lt, k9]
    rw [Bool.eq_iff_iff]
    simp [nodeOk, hf, k9]
    intros
    omega
  by_cases k8 : n.kind = 8
  · simp (config := { contextual := true, maxSteps := 1000000 }) [-Int.not_le, -Int.not_lt, -Nat.not_le, -Nat.not_lt, k8]
    refine LoopI.inv (fun s : Nat × KV => [(2, .ptr H.length 0), (3, .ptr (H.length + 1) 0), (7, .map (H.length + 2)), (104, .fz (ints n.l) kl), (105, .int .i64 n.l.length), (106, .int .i64 s.1)])
      (fun s => H ++ [.cells [.fz (nodes g) kg], .cells [.int .i64 n.kind, .int .i64 n.num, .str n.name, .fz (strs n.keys) kk, .fz (ints n.l) kl], .map (encKV s.2)])
      (fun s W => (∀ o ∈ W, H.length ≤ o) ∧ s.1 ≤ n.l.length ∧ (∀ x, x ∈ keysV s.2 ↔ x ∈ n.l.take s.1) ∧ s.2.length ≤ s.1 ∧ (s.2.length = s.1 ↔ (n.l.take s.1).Nodup) ∧ ∀ (j : Nat) (h : j < n.l.length), j < s.1 → (at0 g n.l[j]).kind ≠ 8) (fun s => n.l.length - s.1) (0, []) (by simp [k8, encKV, keysV]) ?_
    rintro ⟨i, m⟩ W ⟨hW, hi, hkeys, hlen, hnd, hj⟩
    have hw := wrap_succ (i := i) (by omega)
    have hin : ∀ (h : i < n.l.length), 0 ≤ n.l[i] ∧ n.l[i].toNat < g.length := fun h => by
      have := h1 _ (List.getElem_mem h)
      simp only [outP, Bool.or_eq_false_iff, decide_eq_false_iff_not] at this
      omega
    have hx0 := fun h => (hin h).1
    have hx1 := fun h => (hin h).2
    have hG : ∀ m : KV, (H ++ [.cells [.fz (nodes g) kg], .cells [.int .i64 n.kind, .int .i64 n.num, .str n.name, .fz (strs n.keys) kk, .fz (ints n.l) kl], EO.map (encKV m)])[H.length + 2]? = some (.map (encKV m)) := fun m => by simp
    have hS : ∀ m m' : KV, (H ++ [.cells [.fz (nodes g) kg], .cells [.int .i64 n.kind, .int .i64 n.num, .str n.name, .fz (strs n.keys) kk, .fz (ints n.l) kl], EO.map (encKV m)]).set (H.length + 2) (.map (encKV m')) = H ++ [.cells [.fz (nodes g) kg], .cells [.int .i64 n.kind, .int .i64 n.num, .str n.name, .fz (strs n.keys) kk, .fz (ints n.l) kl], EO.map (encKV m')] := fun m m' => by simp [List.set_append]
    have hf1 : ∀ W', (∀ o ∈ W', H.length ≤ o) → ∀ G v, finishE 0 H G W' v = match frzT G H.length freezeDepth v with
      | some v' => (v', H, [])
      | none => (v, G, []) := fun W' h G v => finish0 (far h)
    have hWa : ∀ o ∈ W ++ [H.length + 2], H.length ≤ o := fun o ho => by
      rcases List.mem_append.1 ho with ho | ho
      · exact hW o ho
      · simp at ho; omega
    simp (config := { contextual := true, maxSteps := 1000000 }) [-Int.not_le, -Int.not_lt, -Nat.not_le, -Nat.not_lt, hw, hx0, hx1, look_kv (hG m), upd_kv (hG m), hS, hf1 _ hWa, hf1 _ hW]
    simp only at hi hkeys hlen hnd hj
    have htake : ∀ (h : i < n.l.length), n.l.take (i + 1) = n.l.take i ++ [n.l[i]] := fun h => by rw [List.take_add_one, List.getElem?_eq_getElem h]; rfl
    have hno : nodeOk g n = (n.l.all (fun k => (at0 g k).kind != 8) && decide (2 ≤ n.l.length) && decide n.l.Nodup) := by simp [nodeOk, hf, k8]
    refine ⟨fun h => ?_, fun h => ?_⟩
    · have hat : at0 g n.l[i] = g[n.l[i].toNat]'(hx1 h) := by simp [at0, hx1 h]
      refine ⟨fun hk8 => ?_, fun hk8 => ⟨i + 1, by omega, putV m n.l[i] _, ⟨?_, by omega, ?_, ?_, ?_, ?_⟩, rfl, by simp⟩⟩
      · rw [hno, Bool.eq_false_iff]
        intro hc
        simp only [Bool.and_eq_true, List.all_eq_true] at hc
        have := hc.1.1 _ (List.getElem_mem h)
        rw [hat, hk8] at this
        simp at this
      · rintro o (ho | ho)
        · exact hW o ho
        · omega
      · intro y
        rw [putV_keys, hkeys, htake h, List.mem_append, List.mem_singleton]
        exact ⟨fun h => h.elim .inr .inl, fun h => h.elim .inr .inl⟩
      · rw [putV_length]
        split <;> omega
      · rw [putV_length, htake h, List.nodup_append]
        by_cases hm : n.l[i] ∈ keysV m
        · rw [if_pos hm]
          have hm' := (hkeys _).1 hm
          constructor
          · intro e; omega
          · rintro ⟨_, _, h3⟩
            exact absurd rfl (h3 _ hm' _ (by simp))
        · rw [if_neg hm]
          have hm' : n.l[i] ∉ n.l.take i := fun e => hm ((hkeys _).2 e)
          constructor
          · intro e
            refine ⟨hnd.1 (by omega), by simp, fun a ha b hb => ?_⟩
            rw [List.mem_singleton] at hb
            subst hb
            rintro rfl
            exact hm' ha
          · rintro ⟨h3, _⟩
            have := hnd.2 h3
            omega
      · intro j hjl hji
        rcases Nat.lt_or_eq_of_le (Nat.le_of_lt_succ hji) with h2 | h2
        · exact hj j hjl h2
        · subst h2
          rw [hat]
          exact hk8
    · have hil : i = n.l.length := by omega
      subst hil
      rw [List.take_length] at hnd
      rw [hno]
      have hall : n.l.all (fun k => (at0 g k).kind != 8) = true := by
        rw [List.all_eq_true]
        intro x hx
        obtain ⟨j, hjl, rfl⟩ := List.mem_iff_getElem.1 hx
        simpa using hj j hjl hjl
      rw [hall, Bool.eq_iff_iff]
      simp only [Bool.true_and, Bool.and_eq_true, decide_eq_true_eq, beq_iff_eq, encKV, List.length_map]
      rw [← hnd]
      omega
  simp (config := { contextual := true, maxSteps := 1000000 }) [-Int.not_le, -Int.not_lt, -Nat.not_le, -Nat.not_lt, k1, k2, k3, k4, k5, k7, k8, k9]
  simp [nodeOk, hf, k1, k2, k3, k4, k5, k7, k8, k9]
end Go.Ev
end

/- What the graph's check and comparison compute; places. -/
section
namespace Go.Ev
open Go Go.Proofs
set_option linter.unusedSimpArgs false
set_option linter.unusedVariables false
set_option maxRecDepth 100000
set_option maxHeartbeats 4000000

/-- What is wrong with a graph. -/
def checkG (g : List GN) : Int := if 2000 < g.length then 5 else if g.all (nodeOk g) then 0 else 2
theorem hf1 {H : Heap} {W : List Nat} (h : ∀ o ∈ W, H.length ≤ o) (G : Heap) (v : EV) : finishE 0 H G W v = match frzT G H.length freezeDepth v with
    | some v' => (v', H, [])
    | none => (v, G, []) := finish0 (far h)
theorem far_push {H : Heap} {W : List Nat} (h : ∀ o ∈ W, H.length ≤ o) {o : Nat} (ho : H.length ≤ o) : ∀ x ∈ W ++ [o], H.length ≤ x := fun x hx => by
  rcases List.mem_append.1 hx with hx | hx
  · exact h x hx
  · rw [List.mem_singleton] at hx; omega
theorem check_ok (g : List GN) (k : Cap) (H : Heap) (hg : Fair g) : CallR ep dQ 23 [.fz (nodes g) k] H (.int .i64 (checkG g)) H [] := by
  refine CallW.is (CallW.body rfl fn_23 (by unfold Tryd.f23; rfl) (by rfl) (by unfold Tryd.f23; simp) ?_)
  unfold Tryd.f23
  have hgl := hg.1
  simp (config := { contextual := true, maxSteps := 1000000 }) [-Int.not_le, -Int.not_lt, -Nat.not_le, -Nat.not_lt]
  refine ⟨fun h => by simp [checkG]; omega, fun h => ?_⟩
  refine LoopI.inv (fun s : Nat × Heap => [(0, .fz (nodes g) k), (8, .fz (nodes g) k), (9, .int .i64 g.length), (10, .int .i64 s.1)]) (fun s => s.2)
    (fun s W => (∀ o ∈ W, H.length ≤ o) ∧ H.length ≤ s.2.length ∧ s.1 ≤ g.length ∧ ∀ (j : Nat) (h : j < g.length), j < s.1 → nodeOk g g[j] = true) (fun s => g.length - s.1) (0, H) (by simp) ?_
  rintro ⟨i, G⟩ W ⟨hW, hG, hi, hj⟩
  have hw := wrap_succ (i := i) (by omega)
  have hm := fun (h : i < g.length) G' => (may_ok g g[i] k .no .no G' hg (hg.2 _ (List.getElem_mem h)).1 (hg.2 _ (List.getElem_mem h)).2).val
  have hWa := far_push hW hG
  simp (config := { contextual := true, maxSteps := 1000000 }) [-Int.not_le, -Int.not_lt, -Nat.not_le, -Nat.not_lt, hw, hm, hf1 hW, hf1 hWa]
  have hchk : ∀ (h : i < g.length), nodeOk g g[i] = false → checkG g = 2 := fun h hn => by
    have : g.all (nodeOk g) = false := by
      rw [List.all_eq_false]
      exact ⟨_, List.getElem_mem h, by simp [hn]⟩
    have h2 : ¬ 2000 < g.length := by omega
    simp [checkG, h2, this]
  refine ⟨fun hi' => ⟨fun hn => (hchk hi' hn).symm, fun hn => ⟨i + 1, by omega, _, ⟨?_, ?_, by omega, ?_⟩, rfl, by simp⟩⟩, fun hi' => ?_⟩
  · rintro o (ho | ho)
    · exact hW o ho
    · simp only at hG; omega
  · simp only [List.length_append] at hG ⊢; omega
  · intro j hjl hji
    rcases Nat.lt_or_eq_of_le (Nat.le_of_lt_succ hji) with h2 | h2
    · exact hj j hjl h2
    · subst h2; exact hn
  · have : g.all (nodeOk g) = true := by
      rw [List.all_eq_true]
      intro x hx
      obtain ⟨j, hjl, rfl⟩ := List.mem_iff_getElem.1 hx
      simp only at hi
      exact hj j hjl (by simp only; omega)
    have h2 : ¬ 2000 < g.length := by omega
    simp [checkG, h2, this]
theorem joinMay1_ok (n : Int) (o : Nat) (g : List GN) (kg : Cap) (H : Heap) (ho : H[o]? = some (.cells [.fz (nodes g) kg])) : CallR ep dQ 60 [.int .i64 n, .ptr o 0] H (.bool (outP g n)) H [] := by
  refine CallW.is (CallW.body rfl fn_60 (by unfold Tryd.f60; rfl) (by rfl) (by unfold Tryd.f60; simp) ?_)
  unfold Tryd.f60
  simp (config := { contextual := true, maxSteps := 1000000 }) [-Int.not_le, -Int.not_lt, -Nat.not_le, -Nat.not_lt, ho, outP]
/-- What is wrong with a graph and places. -/
def placesG (g : List GN) (l : List Int) : Int := if checkG g ≠ 0 then checkG g else if l.any (outP g) then 9 else 0
theorem joinMay_ok (g : List GN) (k kl : Cap) (l : List Int) (H : Heap) (hg : Fair g) (hl : l.length ≤ 1000000000000) : CallR ep dQ 34 [.fz (nodes g) k, .fz (ints l) kl] H (.int .i64 (placesG g l)) H [] := by
  have hc := (containsFuncI_ok l kl 60 [] [.ptr H.length 0] (outP g) (H ++ [.cells [.fz (nodes g) k]]) (fun x _ => joinMay1_ok x H.length g k _ (by simp)) (by omega)).val
  refine CallW.is (CallW.body rfl fn_34 (by unfold Tryd.f34; rfl) (by rfl) (by unfold Tryd.f34; simp) ?_)
  unfold Tryd.f34
  simp (config := { contextual := true, maxSteps := 1000000 }) [-Int.not_le, -Int.not_lt, -Nat.not_le, -Nat.not_lt, (check_ok g k _ hg).val, hc]
  refine ⟨fun h => by simp [placesG, h], fun h => ⟨fun x hx ho => ?_, fun ho => ?_⟩⟩
  · have : l.any (outP g) = true := List.any_eq_true.2 ⟨x, hx, ho⟩
    simp [placesG, h, this]
  · have : l.any (outP g) = false := List.any_eq_false.2 (fun x hx => by simp [ho x hx])
    simp [placesG, h, this]

theorem same1_ok (a b : GN) (H : Heap) (ha : a.keys.length ≤ 1000000 ∧ a.l.length ≤ 1000000) : CallR ep dQ 86 [.agg a.enc, .agg b.enc] H (.bool (decide (a = b))) H [] := by
  refine CallW.is (CallW.body rfl fn_86 (by unfold Tryd.f86; rfl) (by rfl) (by unfold Tryd.f86; simp) ?_)
  unfold Tryd.f86
  have h1 := fun ka kb G => (equalS_ok a.keys b.keys ka kb (by omega) G).val
  have h2 := fun ka kb G => (equalI_ok a.l b.l ka kb (by omega) G).val
  simp (config := { contextual := true, maxSteps := 1000000 }) [-Int.not_le, -Int.not_lt, -Nat.not_le, -Nat.not_lt, h1, h2]
  cases a; cases b
  rw [Bool.eq_iff_iff]
  simp [and_assoc]
theorem equalFunc_ok (g h : List GN) (k k' : Cap) (H : Heap) (hg : Fair g) : CallR ep dQ 85 [.fz (nodes g) k, .fz (nodes h) k', .fn 86 [] []] H (.bool (decide (g = h))) H [] := by
  refine CallW.is (CallW.body rfl fn_85 (by unfold Tryd.f85; rfl) (by rfl) (by unfold Tryd.f85; simp) ?_)
  unfold Tryd.f85
  have hgl := hg.1
  simp (config := { contextual := true, maxSteps := 1000000 }) [-Int.not_le, -Int.not_lt, -Nat.not_le, -Nat.not_lt]
  refine ⟨fun hne e => hne (by rw [e]), fun hl => ?_⟩
  have hl' : h.length = g.length := by omega
  refine LoopI.inv (fun s : Nat × Heap => [(1, .fz (nodes h) k'), (2, .fn 86 [] []), (15, .fz (nodes g) k), (16, .int .i64 g.length), (17, .int .i64 s.1)]) (fun s => s.2)
    (fun s W => (∀ o ∈ W, H.length ≤ o) ∧ H.length ≤ s.2.length ∧ s.1 ≤ g.length ∧ g.take s.1 = h.take s.1) (fun s => g.length - s.1) (0, H) (by simp [hl']) ?_
  rintro ⟨i, G⟩ W ⟨hW, hG, hi, hp⟩
  have hw := wrap_succ (i := i) (by omega)
  have hm := fun (hi : i < g.length) (hi2 : i < h.length) G' => (same1_ok g[i] h[i] G' ⟨(hg.2 _ (List.getElem_mem hi)).2, (hg.2 _ (List.getElem_mem hi)).1⟩).val
  simp only [enc_eq] at hm
  have hWa : ∀ x ∈ W ++ [G.length, G.length + 1], H.length ≤ x := fun x hx => by
    rcases List.mem_append.1 hx with hx | hx
    · exact hW x hx
    · simp only at hG
      simp at hx; omega
  simp (config := { contextual := true, maxSteps := 1000000 }) [-Int.not_le, -Int.not_lt, -Nat.not_le, -Nat.not_lt, hw, hm, hf1 hW, hf1 hWa, hl']
  refine ⟨fun h1 => ⟨fun h2 e => h2 (by subst e; rfl), fun h2 => ⟨i + 1, by omega, _, ⟨?_, ?_, by omega, ?_⟩, rfl, by simp⟩⟩, fun h1 => ?_⟩
  · intro o ho
    exact hWa o (by simpa using ho)
  · simp only [List.length_append] at hG ⊢; omega
  · simp only at hp
    rw [List.take_add_one, List.take_add_one, hp, List.getElem?_eq_getElem h1, List.getElem?_eq_getElem (by omega), h2]
  · simp only at hp hi
    rw [List.take_of_length_le (by omega), List.take_of_length_le (by omega)] at hp
    exact hp
theorem same_ok (g h : List GN) (k k' : Cap) (H : Heap) (hg : Fair g) : CallR ep dQ 53 [.fz (nodes g) k, .fz (nodes h) k'] H (.bool (decide (g = h))) H [] := by
  refine CallW.is (CallW.body rfl fn_53 (by unfold Tryd.f53; rfl) (by rfl) (by unfold Tryd.f53; simp) ?_)
  unfold Tryd.f53
  simp (config := { contextual := true, maxSteps := 1000000 }) [-Int.not_le, -Int.not_lt, -Nat.not_le, -Nat.not_lt, (equalFunc_ok g h k k' _ hg).val]

theorem bring_ok (n m : Int) (hm : 0 < m) (hm2 : m < 2 ^ 62) (H : Heap) : CallR ep dQ 20 [.int .i64 n, .int .i64 m] H (.int .i64 (n % m)) H [] := by
  refine CallW.is (CallW.body rfl fn_20 (by unfold Tryd.f20; rfl) (by rfl) (by unfold Tryd.f20; simp) ?_)
  unfold Tryd.f20
  have h0 : ¬ m = 0 := by omega
  have h1 : n.tmod m < m := Int.tmod_lt_of_pos n hm
  have h2 : -m < n.tmod m := by
    have := Int.tmod_lt_of_pos (-n) hm
    rw [Int.neg_tmod] at this
    omega
  have hw : IntKind.i64.wrap (n.tmod m + m) = n.tmod m + m := wrap64 (by omega) (by omega)
  have h3 := Int.emod_nonneg n h0
  have h4 := Int.emod_lt_of_pos n hm
  have hE := @Int.emod_eq_tmod n m
  simp (config := { contextual := true, maxSteps := 1000000 }) [-Int.not_le, -Int.not_lt, -Nat.not_le, -Nat.not_lt, h0, hw]
  split at hE
  · refine ⟨fun _ => by omega, fun _ => by omega⟩
  · refine ⟨fun _ => by omega, fun _ => by omega⟩
theorem copyInts_ok (l : List Int) (k : Cap) (H : Heap) (hl : l.length ≤ 1000000) : CallR ep dQ 10 [.fz (ints l) k] H (.fz (ints l) (cloneK H l)) (cloneH H l) [] := by
  cases l with
  | nil =>
    refine CallW.is (CallW.body rfl fn_10 (by unfold Tryd.f10; rfl) (by rfl) (by unfold Tryd.f10; simp) ?_)
    unfold Tryd.f10
    have h := append_nothing (T := ep.T) (vm := true) (G := H) (es := []) (k := .tight) (k' := k) ⟨_, _, _, _, _, ty_23⟩ ⟨_, _, _, _, _, ty_23⟩ ty_3
    have hf := finish2_tight (H := H) (H1 := H) (W := []) (es := []) rfl
    simp (config := { contextual := true, maxSteps := 1000000 }) [-Int.not_le, -Int.not_lt, -Nat.not_le, -Nat.not_lt, h, hf, cloneK, cloneH]
  | cons a l =>
    refine CallW.is (CallW.body rfl fn_10 (by unfold Tryd.f10; rfl) (by rfl) (by unfold Tryd.f10; simp) ?_)
    unfold Tryd.f10
    have h := app_ints_nil (G := H) (m := a :: l) (k' := k) (by simp) hl
    have hf := finish2_tok (H := H) (H1 := H ++ [.tip (a :: l).length]) (W := []) (es := ints (a :: l)) (o := H.length) (m := (a :: l).length) rfl (Nat.le_refl _) (by simp)
    simp only [List.length_cons] at h hf
    simp (config := { contextual := true, maxSteps := 1000000 }) [-Int.not_le, -Int.not_lt, -Nat.not_le, -Nat.not_lt, h, hf, cloneK, cloneH]
end Go.Ev
end

/- What copies of graphs compute. -/
section
namespace Go.Ev
open Go Go.Proofs
set_option linter.unusedSimpArgs false
set_option linter.unusedVariables false
set_option maxRecDepth 100000
set_option maxHeartbeats 4000000

/-- The nodes of a graph, in one block. -/
def flat (g : List GN) : List EV := (nodes g).flatten
theorem flat_cons (a : GN) (g : List GN) : flat (a :: g) = a.enc ++ flat g := rfl
theorem flat_len (g : List GN) : (flat g).length = 5 * g.length := by
  induction g with
  | nil => rfl
  | cons a g ih =>
    rw [flat_cons, List.length_append, ih]
    simp
    omega
theorem flat_get (g : List GN) : ∀ (i f : Nat), f < 5 → (flat g)[5 * i + f]? = match g[i]? with
    | some n => n.enc[f]?
    | none => none := by
  induction g with
  | nil => intro i f hf; simp [flat]
  | cons a g ih =>
    intro i f hf
    rw [flat_cons]
    cases i with
    | zero =>
      rw [List.getElem?_append_left (by simp; omega)]
      simp
    | succ i =>
      rw [List.getElem?_append_right (by simp; omega)]
      have := ih i f hf
      rw [show 5 * (i + 1) + f - a.enc.length = 5 * i + f by simp; omega, this]
      simp
theorem flat_chunk (g : List GN) : chunk 5 g.length (flat g) = nodes g := by
  induction g with
  | nil => rfl
  | cons a g ih =>
    rw [flat_cons, List.length_cons]
    simp only [chunk]
    rw [show (a.enc ++ flat g).take 5 = a.enc from rfl, show (a.enc ++ flat g).drop 5 = flat g from rfl, ih]
    rfl
theorem mapO_app {α γ : Type} {f : α → Option γ} : ∀ {a b : List α} {a' b' : List γ}, mapO f a = some a' → mapO f b = some b' → mapO f (a ++ b) = some (a' ++ b')
  | [], b, a', b', h, k => by
    simp only [mapO] at h
    injection h with h
    subst h
    exact k
  | x :: a, b, a', b', h, k => by
    simp only [mapO, List.cons_append] at h ⊢
    split at h
    · rename_i y ys h1 h2
      injection h with h
      subst h
      rw [h1, mapO_app h2 k]
      rfl
    · cases h
theorem flat_still (g : List GN) : mapO still (flat g) = some (flat g) := by
  induction g with
  | nil => rfl
  | cons a g ih =>
    rw [flat_cons]
    exact mapO_app rfl ih
theorem mapO_set {α γ : Type} {f : α → Option γ} {x : α} {y : γ} (hx : f x = some y) : ∀ {a : List α} {a' : List γ} {i : Nat}, mapO f a = some a' → mapO f (a.set i x) = some (a'.set i y)
  | [], a', i, h => by
    simp only [mapO] at h
    injection h with h
    subst h
    rfl
  | z :: a, a', i, h => by
    simp only [mapO] at h
    split at h
    · rename_i u us h1 h2
      injection h with h
      subst h
      cases i with
      | zero => simp only [List.set_cons_zero, mapO, hx, h2]
      | succ i => simp only [List.set_cons_succ, mapO, h1, mapO_set hx h2]
    · cases h
theorem frzC_of_still {H : Heap} {base : Nat} {ban : Option Nat} {d : Nat} {v v' : EV} (h : still v = some v') : frzC H base ban (d + 1) v = some v' := by
  cases v <;> first | exact h | cases h
theorem mapO_mono {α γ : Type} {f f' : α → Option γ} (hf : ∀ x y, f x = some y → f' x = some y) : ∀ {a : List α} {a' : List γ}, mapO f a = some a' → mapO f' a = some a'
  | [], a', h => h
  | x :: a, a', h => by
    simp only [mapO] at h ⊢
    split at h
    · rename_i y ys h1 h2
      rw [hf _ _ h1, mapO_mono hf h2]
      exact h
    · cases h
theorem splice_one {cs : List EV} {i : Nat} {v : EV} (h : i < cs.length) : splice cs i [v] = cs.set i v := by
  unfold splice
  rw [List.set_eq_take_append_cons_drop, if_pos h]
  simp
/-- What a call that keeps its slice hands back, of an object. -/
theorem keep_sl {H H1 : Heap} {o n z : Nat} {cs cs' : List EV} (ho : H.length ≤ o) (h1 : H1[o]? = some (.cells cs)) (hl : cs.length = n * z) (hs : mapO still cs = some cs') : keepV H1 H.length freezeDepth (.sl o 0 n z none) H = some (.sl H.length 0 n z none, H ++ [.cells cs'], o) := by
  have hm : mapO (frzC H1 H.length (some o) freezeDepth) cs = some cs' := mapO_mono (fun x y h => frzC_of_still (d := 19) h) hs
  have hc : cut cs 0 (n * z) = cs := by rw [← hl]; simp [cut]
  have h3 : 0 + n * z ≤ cs.length := by omega
  simp only [keepV, if_neg (show ¬ o < H.length by omega), h1, hc, hm, if_pos h3]
  simp
theorem finish2_sl {H H1 : Heap} {W : List Nat} {o n z : Nat} {cs cs' : List EV} (hW : W.filter (· < H.length) = []) (ho : H.length ≤ o) (h1 : H1[o]? = some (.cells cs)) (hl : cs.length = n * z) (hs : mapO still cs = some cs') : finishE 2 H H1 W (.sl o 0 n z none) = (.sl H.length 0 n z none, H ++ [.cells cs'], []) := by
  simp only [finishE, hW, keep_sl ho h1 hl hs]
theorem finish3_sl {H H1 : Heap} {W : List Nat} {o n z : Nat} {cs cs' : List EV} (hW : W.filter (· < H.length) = []) (ho : H.length ≤ o) (h1 : H1[o]? = some (.cells cs)) (hl : cs.length = (n + 1) * z) (hs : mapO still cs = some cs') (hs2 : mapO still cs' = some cs') : finishE 3 H H1 W (.sl o 0 (n + 1) z none) = (.fz (chunk z (n + 1) cs') (.tok (H.length + 1)), H ++ [.dead, .tip ((n + 1) * z)], []) := by
  have hl' : cs'.length = (n + 1) * z := by rw [mapO_length hs, hl]
  have hc : cut cs' 0 ((n + 1) * z) = cs' := by rw [← hl']; simp [cut]
  simp only [finishE, hW, keep_sl ho h1 hl hs]
  simp only [meltV, Nat.le_refl, if_true]
  rw [List.getElem?_append_right (Nat.le_refl _)]
  simp only [Nat.sub_self, List.getElem?_cons_zero, hc, hs2, hl', Nat.le_refl, if_true]
  simp [List.set_append]
theorem cloneN_ok (g : List GN) (hne : g ≠ []) (k : Cap) (H : Heap) (hl : g.length ≤ 1000000) : CallR ep dQ 54 [.fz (nodes g) k] H (.sl H.length 0 g.length 5 none) (H ++ [.cells (flat g)]) [] := by
  cases g with
  | nil => exact absurd rfl hne
  | cons a g =>
    have happ : appendE ep.T false (H ++ [EO.cells []]) 22 22 (EV.sl H.length 0 0 5 (some 0)) (.fz (nodes (a :: g)) k) = some (.sl (H.length + 1) 0 (a :: g).length 5 none, H ++ [.cells [], .cells (flat (a :: g))], []) := by
      unfold appendE
      rw [ty_22]
      simp only [ty_44, newsE, sliceRows, nodes_rows, if_true]
      rw [show nodes (a :: g) = a.enc :: nodes g from rfl]
      have h1 := nodes_ones (g := a :: g)
      rw [show nodes (a :: g) = a.enc :: nodes g from rfl] at h1
      simp only [h1, if_true, growE]
      rw [show a.enc :: nodes g = nodes (a :: g) from rfl]
      simp [splice, cut, roomy, flat]
      have : g.length + 1 ≤ 1000000 := hl
      omega
    have hf := finish2_sl (H := H) (H1 := H ++ [.cells [], .cells (flat (a :: g))]) (W := []) (o := H.length + 1) (n := (a :: g).length) (z := 5) rfl (by omega) (by simp) (by rw [flat_len]; omega) (flat_still (a :: g))
    refine CallW.is (CallW.body rfl fn_54 (by unfold Tryd.f54; rfl) (by rfl) (by unfold Tryd.f54; simp) ?_)
    unfold Tryd.f54
    simp (config := { contextual := true, maxSteps := 1000000 }) [-Int.not_le, -Int.not_lt, -Nat.not_le, -Nat.not_lt, show nodes (a :: g) = a.enc :: nodes g from rfl]
    simp only [show nodes (a :: g) = a.enc :: nodes g from rfl, enc_eq] at happ
    rw [happ]
    simp only [hf]
    simp
theorem take_drop_set {cs : List EV} {i : Nat} {v : EV} (h : i < cs.length) : List.take i cs ++ v :: List.drop (i + 1) cs = cs.set i v := by
  rw [List.set_eq_take_append_cons_drop, if_pos h]
theorem set_same {α : Type} {l : List α} {i : Nat} {x : α} (h : l[i]? = some x) : l.set i x = l := by
  apply List.ext_getElem?
  intro j
  rw [List.getElem?_set]
  split
  · rename_i e
    subst e
    split
    · exact h.symm
    · rename_i hl
      rw [List.getElem?_eq_none_iff.2 (by omega)]
  · rfl
def cloneT {α : Type} (l : List α) : Heap := if l = [] then [] else [.tip l.length]
theorem cloneH_eq {H : Heap} {α : Type} {l : List α} : cloneH H l = H ++ cloneT l := by
  unfold cloneH cloneT
  split <;> simp
theorem copy_ok (g : List GN) (k : Cap) (H : Heap) (hg : Fair g) : CallR ep dQ 28 [.fz (nodes g) k] H (if g = [] then .fz [] .tight else .fz (nodes g) (.tok (H.length + 1))) (if g = [] then H else H ++ [.dead, .tip (g.length * 5)]) [] := by
  refine CallW.is (CallW.body rfl fn_28 (by unfold Tryd.f28; rfl) (by rfl) (by unfold Tryd.f28; simp) ?_)
  unfold Tryd.f28
  by_cases hne : g = []
  · subst hne
    have h := (CallR.told (E := ep) (D := dQ) (f := 54) (args := [.fz [] k]) (H := H) (v := .fz [] .tight) (H1 := H) (W := []) rfl).val
    simp (config := { contextual := true, maxSteps := 1000000 }) [-Int.not_le, -Int.not_lt, -Nat.not_le, -Nat.not_lt, h]
    refine LoopI.inv (fun _ : Nat => [(3, .fz [] .tight), (9, .int .i64 0), (10, .int .i64 0)]) (fun s => H) (fun s W => W = []) (fun s => 0) 0 (by simp) ?_
    rintro i W rfl
    simp (config := { contextual := true, maxSteps := 1000000 }) [-Int.not_le, -Int.not_lt, -Nat.not_le, -Nat.not_lt]
    exact ⟨rfl, rfl, rfl⟩
  · have hgl := hg.1
    simp (config := { contextual := true, maxSteps := 1000000 }) [-Int.not_le, -Int.not_lt, -Nat.not_le, -Nat.not_lt, (cloneN_ok g hne k _ hg.1).val]
    refine LoopI.inv (fun s : Nat × List EV × Heap => [(3, .sl H.length 0 g.length 5 none), (8, .fz (nodes g) k), (9, .int .i64 g.length), (10, .int .i64 s.1)]) (fun s => s.2.2)
      (fun s W => (∀ o ∈ W, H.length ≤ o) ∧ H.length < s.2.2.length ∧ s.1 ≤ g.length ∧ s.2.2[H.length]? = some (.cells s.2.1) ∧ mapO still s.2.1 = some (flat g)) (fun s => g.length - s.1) (0, flat g, H ++ [.cells (flat g)]) (by simp [flat_still]) ?_
    rintro ⟨i, cs, G⟩ W ⟨hW, hG, hi, ho, hs⟩
    dsimp only at hW hG hi ho hs
    have hw := wrap_succ (i := i) (by omega)
    have hc1 := fun (h : i < g.length) G' => (cloneS_ok g[i].keys .no G' (hg.2 _ (List.getElem_mem h)).2).val
    have hc2 := fun (h : i < g.length) G' => (cloneI_ok g[i].l .no G' (hg.2 _ (List.getElem_mem h)).1).val
    simp (config := { contextual := true, maxSteps := 1000000 }) [-Int.not_le, -Int.not_lt, -Nat.not_le, -Nat.not_lt, hw, hc1, hc2]
    refine ⟨fun h => ⟨by kernel_rfl, draw2R_of [.p false, .p false, .p false, .p false, .p false, .p false, .c false [], .p false, .p false, .c false [], .p false, .p false, .a [], .p false, .p false, .a []] [] (by kernel_rfl) (by kernel_rfl) [H.length] ?_⟩, fun h => ?_⟩
    · have hne' : ¬ G.length = H.length := fun e => by omega
      have hlen : cs.length = g.length * 5 := by rw [← mapO_length hs, flat_len]; omega
      have hx3 : i * 5 + 3 + 1 ≤ cs.length := by omega
      have hx4 : i * 5 + 4 + 1 ≤ cs.length := by omega
      obtain ⟨hlt, ho'⟩ := List.getElem?_eq_some_iff.1 ho
      have hs3 := fun v => take_drop_set (cs := cs) (i := i * 5 + 3) (v := v) (by omega)
      have hs4 := fun u v => take_drop_set (cs := cs.set (i * 5 + 3) u) (i := i * 5 + 4) (v := v) (by simp; omega)
      simp (config := { contextual := true, maxSteps := 1000000 }) [-Int.not_le, -Int.not_lt, -Nat.not_le, -Nat.not_lt, hw, hc1 h, hc2 h, h, hne', ho, hG, cloneH_eq, hx3, hx4, hs3, hs4, ho', List.getElem?_append_left]
      refine ⟨i + 1, by omega, (cs.set (i * 5 + 3) (.fz (strs g[i].keys) .no)).set (i * 5 + 4) (.fz (ints g[i].l) (cloneK (G ++ [EO.cells [EV.int IntKind.i64 g[i].kind, EV.int IntKind.i64 g[i].num, EV.str g[i].name, EV.fz (strs g[i].keys) Cap.no, EV.fz (ints g[i].l) Cap.no]]) g[i].l)), _, ⟨?_, ?_, by omega, ?_, ?_⟩, rfl, by simp⟩
      · rintro o (h | h | h)
        · exact hW o h
        · omega
        · omega
      · simp; omega
      · rw [List.getElem?_append_left (by simpa using hlt), List.getElem?_set, if_pos rfl, if_pos hlt]
      · have h3 := flat_get g i 3 (by omega)
        have h4 := flat_get g i 4 (by omega)
        rw [List.getElem?_eq_getElem h] at h3 h4
        have e3 := set_same (x := EV.fz (strs g[i].keys) .no) (i := i * 5 + 3) (l := flat g) (by rw [Nat.mul_comm]; exact h3)
        have e4 := set_same (x := EV.fz (ints g[i].l) .no) (i := i * 5 + 4) (l := flat g) (by rw [Nat.mul_comm]; exact h4)
        have := mapO_set (f := still) (x := EV.fz (ints g[i].l) (cloneK (G ++ [EO.cells [EV.int IntKind.i64 g[i].kind, EV.int IntKind.i64 g[i].num, EV.str g[i].name, EV.fz (strs g[i].keys) Cap.no, EV.fz (ints g[i].l) Cap.no]]) g[i].l)) (y := EV.fz (ints g[i].l) .no) rfl (i := i * 5 + 4) (mapO_set (f := still) (x := EV.fz (strs g[i].keys) Cap.no) (y := EV.fz (strs g[i].keys) .no) rfl (i := i * 5 + 3) hs)
        rw [e3, e4] at this
        exact this
    · have hlen : cs.length = g.length * 5 := by rw [← mapO_length hs, flat_len]; omega
      obtain ⟨n, hn⟩ : ∃ n, g.length = n + 1 := ⟨g.length - 1, by have := List.length_pos_iff.2 hne; omega⟩
      have hf := finish3_sl (H := H) (H1 := G) (W := W) (o := H.length) (n := n) (z := 5) (far hW) (Nat.le_refl _) ho (by rw [hlen, hn]) hs (flat_still g)
      rw [← hn] at hf
      rw [hf, if_neg hne, if_neg hne, flat_chunk]
      simp
end Go.Ev
end
