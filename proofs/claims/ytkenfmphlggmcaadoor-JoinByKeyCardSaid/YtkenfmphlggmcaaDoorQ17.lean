/- JoinByKey: the walk. -/
import Derived.Test.YtkenfmphlggmcaaDoorQ16

section
namespace Go.Ev
open Go Go.Proofs
set_option linter.unusedSimpArgs false
set_option linter.unusedVariables false
set_option maxRecDepth 100000
set_option maxHeartbeats 1000000

theorem oneK_nz {g : List GN} (hG : Good g) (hc : checkG g = 0) (key s : Str) {m : Int} (hm : inG g m) : nz (oneK g key s m) := by
  refine narV_nz hG hc (fun x hx => ?_) hm
  unfold leafK
  split
  · rename_i hk7
    unfold recF
    split
    · rename_i hkey
      refine lookV_nz hG hc _ ?_
      obtain ⟨hr, hl⟩ := hG.recs x hx hk7
      have hb := bsN_lt hr hkey
      have hlt : bsN (at0 g x).keys key < (at0 g x).l.length := by omega
      have := node_places ((check_ok0 hc).2 _ (at0_mem (show ¬ (x < 0 ∨ (g.length : Int) ≤ x) by have := hx.1; have := hx.2; omega))) _ (List.getElem_mem hlt)
      rw [List.getD_eq_getElem?_getD, List.getElem?_eq_getElem hlt]
      exact ⟨this.1, this.2⟩
    · exact .inr rfl
  · exact .inr rfl
theorem nky_ok {g : List GN} {n w : Int} {key : Str} (hk : isName key = true) (hg : Fair g) (hc : checkG g = 0) (hl : g.length ≤ 20) (hn : inG g n) : nkyE g n key (shp w) = 0 := by
  have hF := narF (key := key) (one := oneK g key (shp w)) hg hc (by omega) hn (shp_bare w)
  have hb : big (narH g key (shapeN (shp w)) (oneK g key (shp w)) n) = false := by
    have := hF.len
    simp [big]
    omega
  have hp : placesG g [n] = 0 := by
    have := hn.1
    have := hn.2
    have ho : outP g n = false := by simp [outP]; omega
    simp [placesG, hc, ho]
  simp [nkyE, nrwE, hp, shp_is, hb, hk]
theorem key_grown {g : List GN} {n w : Int} {key : Str} (hg : Fair g) (hc : checkG g = 0) (hl : g.length ≤ 20) (hn : inG g n) :
    ¬ (narY g key (shapeN (shp w)) (oneK g key (shp w)) n < 0 ∧ narN g key (shapeN (shp w)) (oneK g key (shp w)) n < 0) ∧
    grownB g (narH g key (shapeN (shp w)) (oneK g key (shp w)) n) (max (narY g key (shapeN (shp w)) (oneK g key (shp w)) n) (narN g key (shapeN (shp w)) (oneK g key (shp w)) n)) = true := by
  have hF := narF (key := key) (one := oneK g key (shp w)) hg hc (by omega) hn (shp_bare w)
  have hI := narI (g := g) (key := key) (sh := shapeN (shp w)) (one := oneK g key (shp w)) n
  have hG := good_of hg hc
  have hnz : ¬ ((narG g key (shapeN (shp w)) (oneK g key (shp w)) n).2.1 = [] ∧ (narG g key (shapeN (shp w)) (oneK g key (shp w)) n).2.2 = []) := by
    rintro ⟨h1, h2⟩
    have hne := members_ne hc hn
    obtain ⟨y, hy⟩ := List.exists_mem_of_ne_nil _ hne
    have h3 := hI.emp.1 h1 y hy
    rw [hI.no, List.filter_eq_nil_iff] at h2
    have h4 := h2 y hy
    rcases oneK_nz hG hc key (shp w) (hG.mem n y hy) with h | h
    · rw [h3] at h; cases h
    · exact h4 h
  obtain ⟨t, ht⟩ := hF.ext
  have h1 := hF.yes
  have h2 := hF.no
  have h3 : ¬ (narY g key (shapeN (shp w)) (oneK g key (shp w)) n < 0 ∧ narN g key (shapeN (shp w)) (oneK g key (shp w)) n < 0) := by
    rintro ⟨h5, h6⟩
    rcases h1 with ⟨_, h1⟩ | ⟨_, h1, _⟩
    · rcases h2 with ⟨_, h2⟩ | ⟨_, h2, _⟩
      · exact hnz ⟨h1, h2⟩
      · omega
    · omega
  refine ⟨h3, ?_⟩
  unfold grownB
  have hck := hF.chk
  have hmax : 0 ≤ max (narY g key (shapeN (shp w)) (oneK g key (shp w)) n) (narN g key (shapeN (shp w)) (oneK g key (shp w)) n) ∧ max (narY g key (shapeN (shp w)) (oneK g key (shp w)) n) (narN g key (shapeN (shp w)) (oneK g key (shp w)) n) < ((narH g key (shapeN (shp w)) (oneK g key (shp w)) n).length : Int) := by
    rcases h1 with ⟨h1, _⟩ | ⟨_, h1, h1'⟩ <;> rcases h2 with ⟨h2, _⟩ | ⟨_, h2, h2'⟩ <;> omega
  have h4 : g.length ≤ (narH g key (shapeN (shp w)) (oneK g key (shp w)) n).length ∧ (narH g key (shapeN (shp w)) (oneK g key (shp w)) n).take g.length = g := by rw [ht]; simp
  simp [h4, hck, hmax]
/-- A node that is none of a union, a variable, a dyn. -/
theorem key_leaf {g : List GN} {n w : Int} {key : Str} (hk : key ≠ []) (hn : inG g n) (h8 : (at0 g n).kind ≠ 8) :
    narY g key (shapeN (shp w)) (oneK g key (shp w)) n = (if (oneK g key (shp w) n).1 = true then n else -1) ∧ narN g key (shapeN (shp w)) (oneK g key (shp w)) n = (if (oneK g key (shp w) n).2 = true then n else -1) :=
  nar_one hk (Plain.mem ⟨hn, h8⟩)
theorem nar_iff {g : List GN} {n w : Int} (hg : Fair g) (hc : checkG g = 0) (hl : g.length ≤ 20) (hn : inG g n) :
    (0 ≤ narY g [] (shapeN (shp w)) (oneS g (shp w)) n ↔ (lookV g (plainF g (shapeN (shp w))) n).1 = true) ∧ (0 ≤ narN g [] (shapeN (shp w)) (oneS g (shp w)) n ↔ (lookV g (plainF g (shapeN (shp w))) n).2 = true) := by
  have hF := narF (key := []) (one := oneS g (shp w)) hg hc (by omega) hn (shp_bare w)
  have hI := narI (g := g) (key := []) (sh := shapeN (shp w)) (one := oneS g (shp w)) n
  rw [lookV_eq]
  constructor
  · have h1 : (narG g [] (shapeN (shp w)) (oneS g (shp w)) n).2.1 ≠ [] ↔ ((members g n).any fun m => (narV g (plainF g (shapeN (shp w))) m).1) = true := by
      rw [List.any_eq_true, ne_eq, hI.emp]
      constructor
      · intro h
        simp only [Classical.not_forall] at h
        obtain ⟨x, hx, h⟩ := h
        exact ⟨x, hx, by show (oneS g (shp w) x).1 = true; simpa using h⟩
      · rintro ⟨x, hx, h⟩ h2
        have h3 := h2 x hx
        unfold oneS at h3
        rw [h3] at h
        cases h
    rw [← h1]
    rcases hF.yes with ⟨h2, h3⟩ | ⟨h2, h3, _⟩
    · exact ⟨fun h => by omega, fun h => absurd h3 h⟩
    · exact ⟨fun _ => h2, fun _ => h3⟩
  · have h1 : (narG g [] (shapeN (shp w)) (oneS g (shp w)) n).2.2 ≠ [] ↔ ((members g n).any fun m => (narV g (plainF g (shapeN (shp w))) m).2) = true := by
      rw [List.any_eq_true, hI.no, ne_eq, List.filter_eq_nil_iff]
      constructor
      · intro h
        simp only [Classical.not_forall] at h
        obtain ⟨x, hx, h⟩ := h
        exact ⟨x, hx, by simpa [oneS] using h⟩
      · rintro ⟨x, hx, h⟩ h2
        exact h2 x hx h
    rw [← h1]
    rcases hF.no with ⟨h2, h3⟩ | ⟨h2, h3, _⟩
    · exact ⟨fun h => by omega, fun h => absurd h3 h⟩
    · exact ⟨fun _ => h2, fun _ => h3⟩
/-- The keys of the statement. -/
def key3 (a : Int) : Str := ([[97], [98], [99]] : List Str).getD (a % 3).toNat []
theorem key3_is (a : Int) : isName (key3 a) = true ∧ key3 a ≠ [] ∧ (strs [[97], [98], [99]])[(a % 3).toNat]? = some [.str (key3 a)] := by
  have h : a % 3 = 0 ∨ a % 3 = 1 ∨ a % 3 = 2 := by omega
  unfold key3
  rcases h with h | h | h <;> rw [h] <;> exact ⟨by decide, by decide, rfl⟩
/-- What the loop finds. -/
def findK (x : GN) (key : Str) (i : Nat) : Int := if key ∈ x.keys.take i then x.l.getD (bsN x.keys key) 0 else -1
theorem findK_succ {x : GN} {key : Str} {i : Nat} (hs : risen x.keys = true) (hl : x.l.length = x.keys.length) (hi : i < x.keys.length) :
    findK x key (i + 1) = if x.keys[i] = key then x.l[i]'(by omega) else findK x key i := by
  unfold findK
  rw [List.take_add_one, List.getElem?_eq_getElem hi]
  by_cases h : x.keys[i] = key
  · subst h
    rw [if_pos (show x.keys[i] ∈ x.keys.take i ++ (some x.keys[i]).toList from List.mem_append_right _ (List.mem_singleton.2 rfl)), if_pos rfl, bsN_at hs hi, List.getD_eq_getElem?_getD, List.getElem?_eq_getElem (by omega)]
    rfl
  · rw [if_neg h]
    have : key ∈ x.keys.take i ++ (some x.keys[i]).toList ↔ key ∈ x.keys.take i := by
      rw [List.mem_append]
      exact ⟨fun e => e.elim id fun e => absurd (List.mem_singleton.1 e).symm h, .inl⟩
    simp only [this]
@[simp] theorem binE_bool_eql {a b : Bool} : binE ep.T .eql 4 (.bool a) (.bool b) = some (.bool (a == b)) := by
  unfold binE
  simp [eqE]
theorem joinByKey_ok (g : List GN) (k : Cap) (n a b : Int) (H : Heap) (hg : g.length < 2 ^ 62) (hn : ∀ n ∈ g, n.name.length < 2 ^ 62 ∧ n.l.length < 2 ^ 62 ∧ n.keys.length < 2 ^ 62 ∧ ∀ s ∈ n.keys, s.length < 2 ^ 62) : CallR ep dQ 5 [.fz (nodes g) k, .int .i64 n, .agg [.int .i64 a, .int .i64 b]] H (.bool true) H [] := by
  have hfi := fun G => (fine_ok g k G hg hn).val
  have hwk := fun G => (works_ok G).val
  have hl := fine_len g
  have hc := fine_chk g
  have hf := fine_fair g
  generalize fineG g = f at *
  have hshp := fun G => (shape_ok b G).val
  rw [show shapes7.getD (b % 7).toNat [] = shp b from rfl] at hshp
  have hfin := fun (W : List Nat) (h : ∀ y ∈ W, H.length ≤ y) => hf1 (H := H) (W := W) h
  by_cases h0 : f.length = 0
  · have h0' : (f.length : Int) = 0 := by omega
    refine CallW.is (CallW.body rfl fn_5 (by unfold Tryd.f5; rfl) (by rfl) (by unfold Tryd.f5; simp) ?_)
    unfold Tryd.f5
    simp (config := { contextual := true, maxSteps := 1000000 }) [-Int.not_le, -Int.not_lt, -Nat.not_le, -Nat.not_lt, hfi, hwk, h0', hf1]
  · have h0' : ¬ (f.length : Int) = 0 := by omega
    have hf0 : ¬ f = [] := fun e => h0 (by rw [e]; rfl)
    have hb := fun G => (bring_ok n f.length (by omega) (by omega) G).val
    have hb3 := fun G => (bring_ok a 3 (by omega) (by omega) G).val
    have hin : inG f (n % f.length) := ⟨Int.emod_nonneg _ h0', Int.emod_lt_of_pos _ (by omega)⟩
    have ha3 : 0 ≤ a % 3 := by omega
    generalize n % f.length = p at *
    obtain ⟨hk1, hk2, hk3⟩ := key3_is a
    have hints : ([[.str [97]], [.str [98]], [.str [99]]] : List (List EV)) = strs [[97], [98], [99]] := rfl
    generalize key3 a = key at *
    have hnr := fun G => (narrowBy_ok f .no p key (shp b) G hf).val
    rw [nky_ok hk1 hf hc hl hin] at hnr
    simp only [nrwV, if_true] at hnr
    obtain ⟨hg1, hg2⟩ := key_grown (key := key) (w := b) hf hc hl hin
    have hleaf := key_leaf (g := f) (w := b) hk2 hin
    obtain ⟨hfh, _, _⟩ := narH_ok hf hc (key := key) (one := oneK f key (shp b)) (shapeN_bare (shp b)) p
    have hgr := fun G x => (grown_ok f _ .no .no x G hfh (by omega)).val
    generalize narH f key (shapeN (shp b)) (oneK f key (shp b)) p = h at *
    generalize narY f key (shapeN (shp b)) (oneK f key (shp b)) p = yes at *
    generalize narN f key (shapeN (shp b)) (oneK f key (shp b)) p = no at *
    have hp0 := hin.1
    have hp1 := hin.2
    obtain ⟨i, rfl⟩ : ∃ i : Nat, p = i := ⟨p.toNat, by omega⟩
    have hil : i < f.length := by omega
    have hat := at0_nat hil
    have hi0 : ¬ ((i : Int) < 0) := by omega
    have hmi : (-1 : Int) < (i : Int) := by omega
    have hmx : max yes no = if yes < no then no else yes := by omega
    rw [hmx] at hg2
    have hW1 := hf1 (H := H) (W := [H.length + 1]) (fun y hy => by simp at hy; omega)
    by_cases e8 : f[i].kind = 8
    · by_cases hy : yes < 0
      · have hno : ¬ no < 0 := fun e => hg1 ⟨hy, e⟩
        refine CallW.is (CallW.body rfl fn_5 (by unfold Tryd.f5; rfl) (by rfl) (by unfold Tryd.f5; simp) ?_)
        unfold Tryd.f5
        simp (config := { contextual := true, maxSteps := 1000000 }) [-Int.not_le, -Int.not_lt, -Nat.not_le, -Nat.not_lt, hfi, hwk, h0', hf0, hb, hb3, ha3, hints, ↓hk3, hshp, hnr, hgr, hy, hno, hg2, hil, e8, hW1]
        change _ = true
        kernel_rfl
      · refine CallW.is (CallW.body rfl fn_5 (by unfold Tryd.f5; rfl) (by rfl) (by unfold Tryd.f5; simp) ?_)
        unfold Tryd.f5
        simp (config := { contextual := true, maxSteps := 1000000 }) [-Int.not_le, -Int.not_lt, -Nat.not_le, -Nat.not_lt, hfi, hwk, h0', hf0, hb, hb3, ha3, hints, ↓hk3, hshp, hnr, hgr, hy, hg2, hil, e8, hW1]
        change _ = true
        kernel_rfl
    by_cases e9 : f[i].kind = 9
    · by_cases hy : yes < 0
      · have hno : ¬ no < 0 := fun e => hg1 ⟨hy, e⟩
        refine CallW.is (CallW.body rfl fn_5 (by unfold Tryd.f5; rfl) (by rfl) (by unfold Tryd.f5; simp) ?_)
        unfold Tryd.f5
        simp (config := { contextual := true, maxSteps := 1000000 }) [-Int.not_le, -Int.not_lt, -Nat.not_le, -Nat.not_lt, hfi, hwk, h0', hf0, hb, hb3, ha3, hints, ↓hk3, hshp, hnr, hgr, hy, hno, hg2, hil, e9, hW1]
        change _ = true
        kernel_rfl
      · refine CallW.is (CallW.body rfl fn_5 (by unfold Tryd.f5; rfl) (by rfl) (by unfold Tryd.f5; simp) ?_)
        unfold Tryd.f5
        simp (config := { contextual := true, maxSteps := 1000000 }) [-Int.not_le, -Int.not_lt, -Nat.not_le, -Nat.not_lt, hfi, hwk, h0', hf0, hb, hb3, ha3, hints, ↓hk3, hshp, hnr, hgr, hy, hg2, hil, e9, hW1]
        change _ = true
        kernel_rfl
    obtain ⟨hly, hln⟩ := hleaf (by rw [hat]; exact e8)
    by_cases e1 : f[i].kind = 1
    · have hone : oneK f key (shp b) i = (true, true) := narV_dyn (by rw [hat]; exact e1)
      rw [hone] at hly hln
      have hly : yes = i := hly
      have hln : no = i := hln
      subst hly
      subst hln
      rw [if_neg (by omega)] at hg2
      refine CallW.is (CallW.body rfl fn_5 (by unfold Tryd.f5; rfl) (by rfl) (by unfold Tryd.f5; simp) ?_)
      unfold Tryd.f5
      simp (config := { contextual := true, maxSteps := 1000000 }) [-Int.not_le, -Int.not_lt, -Nat.not_le, -Nat.not_lt, hfi, hwk, h0', hf0, hb, hb3, ha3, hints, ↓hk3, hshp, hnr, hgr, hg2, hil, e1, hW1, hi0]
      change _ = true
      kernel_rfl
    have hnd1 : (at0 f (i : Int)).kind ≠ 1 := by rw [hat]; exact e1
    have hnd9 : (at0 f (i : Int)).kind ≠ 9 := by rw [hat]; exact e9
    have hone : oneK f key (shp b) i = leafK f key (shapeN (shp b)) i := narV_leaf hnd1 hnd9
    rw [hone] at hly hln
    have hG := good_of hf hc
    have hrec : ∀ j, j < f[i].keys.length → risen f[i].keys = true ∧ f[i].l.length = f[i].keys.length := fun j hj => by
      have hok := (check_ok0 hc).2 _ (List.getElem_mem hil)
      simp only [nodeOk, fitP, Bool.and_eq_true, Bool.or_eq_true, beq_iff_eq] at hok
      have h7 : f[i].kind = 7 := hok.1.2.resolve_left (fun e => by rw [e] at hj; simp at hj)
      have := hG.recs i hin (by rw [hat]; exact h7)
      rw [hat] at this
      exact this
    have hkl := (hf.2 _ (List.getElem_mem hil)).2
    have hend : findK f[i] key f[i].keys.length = if key ∈ f[i].keys then f[i].l.getD (bsN f[i].keys key) 0 else -1 := by
      unfold findK
      rw [List.take_length]
    have hni : ¬ ((-1 : Int) = (i : Int)) := by omega
    have hni2 : ¬ ((i : Int) = -1) := by omega
    by_cases hkey : key ∈ f[i].keys
    · have h7 : f[i].kind = 7 := by
        have hok := (check_ok0 hc).2 _ (List.getElem_mem hil)
        simp only [nodeOk, fitP, Bool.and_eq_true, Bool.or_eq_true, beq_iff_eq] at hok
        exact hok.1.2.resolve_left (fun e => by rw [e] at hkey; cases hkey)
      obtain ⟨hr1, hr2⟩ := hG.recs i hin (by rw [hat]; exact h7)
      rw [hat] at hr1 hr2
      have hbl := bsN_lt hr1 (List.contains_iff_mem.2 hkey)
      have hbl2 : bsN f[i].keys key < f[i].l.length := by omega
      have hci : inG f (f[i].l.getD (bsN f[i].keys key) 0) := by
        rw [List.getD_eq_getElem?_getD, List.getElem?_eq_getElem hbl2]
        have := node_places ((check_ok0 hc).2 _ (List.getElem_mem hil)) _ (List.getElem_mem hbl2)
        exact ⟨this.1, this.2⟩
      have hlv : leafK f key (shapeN (shp b)) i = lookV f (plainF f (shapeN (shp b))) (f[i].l.getD (bsN f[i].keys key) 0) := by
        unfold leafK recF
        rw [hat]
        simp [hkey, h7]
      rw [hlv] at hly hln
      rw [if_pos hkey] at hend
      generalize f[i].l.getD (bsN f[i].keys key) 0 = c at *
      have hc0 : ¬ c < 0 := by have := hci.1; omega
      have hns := fun G => (narrow_ok f .no c (shp b) G hf).val
      rw [nsh_ok hf hc hl hci] at hns
      simp only [nrwV, if_true] at hns
      obtain ⟨ha, hb'⟩ := nar_iff (w := b) hf hc hl hci
      generalize narY f [] (shapeN (shp b)) (oneS f (shp b)) c = A at *
      generalize narN f [] (shapeN (shp b)) (oneS f (shp b)) c = B at *
      generalize narH f [] (shapeN (shp b)) (oneS f (shp b)) c = h2 at *
      have hcs : (0 ≤ A ∧ yes = i ∧ 0 ≤ B ∧ no = i) ∨ (0 ≤ A ∧ yes = i ∧ B < 0 ∧ no = -1) ∨ (A < 0 ∧ yes = -1 ∧ 0 ≤ B ∧ no = i) := by
        by_cases h1 : (lookV f (plainF f (shapeN (shp b))) c).1 = true
        · rw [if_pos h1] at hly
          by_cases h3 : (lookV f (plainF f (shapeN (shp b))) c).2 = true
          · rw [if_pos h3] at hln
            exact .inl ⟨ha.2 h1, hly, hb'.2 h3, hln⟩
          · rw [if_neg h3] at hln
            exact .inr (.inl ⟨ha.2 h1, hly, Int.not_le.1 (fun e => h3 (hb'.1 e)), hln⟩)
        · rw [if_neg h1] at hly
          by_cases h3 : (lookV f (plainF f (shapeN (shp b))) c).2 = true
          · rw [if_pos h3] at hln
            exact .inr (.inr ⟨Int.not_le.1 (fun e => h1 (ha.1 e)), hly, hb'.2 h3, hln⟩)
          · rw [if_neg h3] at hln
            exact absurd ⟨by omega, by omega⟩ hg1
      clear ha hb' hly hln hlv
      rcases hcs with hcs | hcs | hcs
      · obtain ⟨hA, e2, hB, e3⟩ := hcs
        subst e2
        subst e3
        rw [if_neg (by omega)] at hg2
        refine CallW.is (CallW.body rfl fn_5 (by unfold Tryd.f5; rfl) (by rfl) (by unfold Tryd.f5; simp) ?_)
        unfold Tryd.f5
        simp (config := { contextual := true, maxSteps := 1000000 }) [-Int.not_le, -Int.not_lt, -Nat.not_le, -Nat.not_lt, hfi, hwk, h0', hf0, hb, hb3, ha3, hints, ↓hk3, hshp, hnr, hgr, hg2, hil, e1, e8, e9, hW1, hi0, hmi]
        refine ⟨by kernel_rfl, ?_⟩
        refine LoopI.inv (fun j : Nat => [(0, .fz (nodes f) .no), (1, .int .i64 i), (7, .str key), (8, .str (shp b)), (10, .int .i64 i), (11, .int .i64 i), (13, .ptr (H.length + 1) 0), (14, .int .i64 (findK (f[i]'hil) key j)), (15, .int .i64 j)]) (fun j => H ++ [.cells [.int .i64 a, .int .i64 b], .cells (f[i]'hil).enc]) (fun j W => j ≤ (f[i]'hil).keys.length ∧ W = []) (fun j => (f[i]'hil).keys.length - j) 0 (by simp [findK, GN.enc]) ?_
        rintro j W ⟨hj, rfl⟩
        have hjw := wrap_succ (i := j) (by omega)
        by_cases hj' : j < f[i].keys.length
        · obtain ⟨hr1, hr2⟩ := hrec j hj'
          have hfs := findK_succ (key := key) hr1 hr2 hj'
          have hj2 : j < f[i].l.length := by omega
          by_cases hq : f[i].keys[j] = key
          · rw [if_pos hq] at hfs
            simp (config := { contextual := true, maxSteps := 1000000 }) [-Int.not_le, -Int.not_lt, -Nat.not_le, -Nat.not_lt, hj', hj2, hq, hjw, GN.enc]
            exact ⟨j + 1, by omega, by omega, by simp [hfs]⟩
          · rw [if_neg hq] at hfs
            simp (config := { contextual := true, maxSteps := 1000000 }) [-Int.not_le, -Int.not_lt, -Nat.not_le, -Nat.not_lt, hj', hj2, hq, hjw, GN.enc]
            exact ⟨j + 1, by omega, by omega, by simp [hfs]⟩
        · have hje : j = f[i].keys.length := by omega
          subst hje
          rw [hend]
          simp (config := { contextual := true, maxSteps := 1000000 }) [-Int.not_le, -Int.not_lt, -Nat.not_le, -Nat.not_lt, hwk, hW1, GN.enc, hc0, hns, hA, hB]
      · obtain ⟨hA, e2, hB, e3⟩ := hcs
        subst e2
        subst e3
        rw [if_neg (by omega)] at hg2
        have hB' : ¬ 0 ≤ B := by omega
        have hmi' : ¬ ((i : Int) < -1) := by omega
        refine CallW.is (CallW.body rfl fn_5 (by unfold Tryd.f5; rfl) (by rfl) (by unfold Tryd.f5; simp) ?_)
        unfold Tryd.f5
        simp (config := { contextual := true, maxSteps := 1000000 }) [-Int.not_le, -Int.not_lt, -Nat.not_le, -Nat.not_lt, hfi, hwk, h0', hf0, hb, hb3, ha3, hints, ↓hk3, hshp, hnr, hgr, hg2, hil, e1, e8, e9, hW1, hi0, hmi, hmi']
        refine ⟨by kernel_rfl, ?_⟩
        refine LoopI.inv (fun j : Nat => [(0, .fz (nodes f) .no), (1, .int .i64 i), (7, .str key), (8, .str (shp b)), (10, .int .i64 i), (11, .int .i64 (-1)), (13, .ptr (H.length + 1) 0), (14, .int .i64 (findK (f[i]'hil) key j)), (15, .int .i64 j)]) (fun j => H ++ [.cells [.int .i64 a, .int .i64 b], .cells (f[i]'hil).enc]) (fun j W => j ≤ (f[i]'hil).keys.length ∧ W = []) (fun j => (f[i]'hil).keys.length - j) 0 (by simp [findK, GN.enc]) ?_
        rintro j W ⟨hj, rfl⟩
        have hjw := wrap_succ (i := j) (by omega)
        by_cases hj' : j < f[i].keys.length
        · obtain ⟨hr1, hr2⟩ := hrec j hj'
          have hfs := findK_succ (key := key) hr1 hr2 hj'
          have hj2 : j < f[i].l.length := by omega
          by_cases hq : f[i].keys[j] = key
          · rw [if_pos hq] at hfs
            simp (config := { contextual := true, maxSteps := 1000000 }) [-Int.not_le, -Int.not_lt, -Nat.not_le, -Nat.not_lt, hj', hj2, hq, hjw, GN.enc]
            exact ⟨j + 1, by omega, by omega, by simp [hfs]⟩
          · rw [if_neg hq] at hfs
            simp (config := { contextual := true, maxSteps := 1000000 }) [-Int.not_le, -Int.not_lt, -Nat.not_le, -Nat.not_lt, hj', hj2, hq, hjw, GN.enc]
            exact ⟨j + 1, by omega, by omega, by simp [hfs]⟩
        · have hje : j = f[i].keys.length := by omega
          subst hje
          rw [hend]
          simp (config := { contextual := true, maxSteps := 1000000 }) [-Int.not_le, -Int.not_lt, -Nat.not_le, -Nat.not_lt, hwk, hW1, GN.enc, hc0, hns, hA, hB', hni, hni2]
      · obtain ⟨hA, e2, hB, e3⟩ := hcs
        subst e2
        subst e3
        rw [if_pos (by omega)] at hg2
        have hA' : ¬ 0 ≤ A := by omega
        refine CallW.is (CallW.body rfl fn_5 (by unfold Tryd.f5; rfl) (by rfl) (by unfold Tryd.f5; simp) ?_)
        unfold Tryd.f5
        simp (config := { contextual := true, maxSteps := 1000000 }) [-Int.not_le, -Int.not_lt, -Nat.not_le, -Nat.not_lt, hfi, hwk, h0', hf0, hb, hb3, ha3, hints, ↓hk3, hshp, hnr, hgr, hg2, hil, e1, e8, e9, hW1, hi0, hmi]
        refine ⟨by kernel_rfl, ?_⟩
        refine LoopI.inv (fun j : Nat => [(0, .fz (nodes f) .no), (1, .int .i64 i), (7, .str key), (8, .str (shp b)), (10, .int .i64 (-1)), (11, .int .i64 i), (13, .ptr (H.length + 1) 0), (14, .int .i64 (findK (f[i]'hil) key j)), (15, .int .i64 j)]) (fun j => H ++ [.cells [.int .i64 a, .int .i64 b], .cells (f[i]'hil).enc]) (fun j W => j ≤ (f[i]'hil).keys.length ∧ W = []) (fun j => (f[i]'hil).keys.length - j) 0 (by simp [findK, GN.enc]) ?_
        rintro j W ⟨hj, rfl⟩
        have hjw := wrap_succ (i := j) (by omega)
        by_cases hj' : j < f[i].keys.length
        · obtain ⟨hr1, hr2⟩ := hrec j hj'
          have hfs := findK_succ (key := key) hr1 hr2 hj'
          have hj2 : j < f[i].l.length := by omega
          by_cases hq : f[i].keys[j] = key
          · rw [if_pos hq] at hfs
            simp (config := { contextual := true, maxSteps := 1000000 }) [-Int.not_le, -Int.not_lt, -Nat.not_le, -Nat.not_lt, hj', hj2, hq, hjw, GN.enc]
            exact ⟨j + 1, by omega, by omega, by simp [hfs]⟩
          · rw [if_neg hq] at hfs
            simp (config := { contextual := true, maxSteps := 1000000 }) [-Int.not_le, -Int.not_lt, -Nat.not_le, -Nat.not_lt, hj', hj2, hq, hjw, GN.enc]
            exact ⟨j + 1, by omega, by omega, by simp [hfs]⟩
        · have hje : j = f[i].keys.length := by omega
          subst hje
          rw [hend]
          simp (config := { contextual := true, maxSteps := 1000000 }) [-Int.not_le, -Int.not_lt, -Nat.not_le, -Nat.not_lt, hwk, hW1, GN.enc, hc0, hns, hA', hB, hni, hni2]
    · have hlv : leafK f key (shapeN (shp b)) i = (false, true) := by
        unfold leafK recF
        rw [hat]
        simp [hkey]
      rw [hlv] at hly hln
      have hly : yes = -1 := hly
      have hln : no = i := hln
      subst hly
      subst hln
      rw [if_neg hkey] at hend
      rw [if_pos (by omega)] at hg2
      refine CallW.is (CallW.body rfl fn_5 (by unfold Tryd.f5; rfl) (by rfl) (by unfold Tryd.f5; simp) ?_)
      unfold Tryd.f5
      simp (config := { contextual := true, maxSteps := 1000000 }) [-Int.not_le, -Int.not_lt, -Nat.not_le, -Nat.not_lt, hfi, hwk, h0', hf0, hb, hb3, ha3, hints, ↓hk3, hshp, hnr, hgr, hg2, hil, e1, e8, e9, hW1, hi0, hmi]
      refine ⟨by kernel_rfl, ?_⟩
      refine LoopI.inv (fun j : Nat => [(0, .fz (nodes f) .no), (1, .int .i64 i), (7, .str key), (8, .str (shp b)), (10, .int .i64 (-1)), (11, .int .i64 i), (13, .ptr (H.length + 1) 0), (14, .int .i64 (findK (f[i]'hil) key j)), (15, .int .i64 j)]) (fun j => H ++ [.cells [.int .i64 a, .int .i64 b], .cells (f[i]'hil).enc]) (fun j W => j ≤ (f[i]'hil).keys.length ∧ W = []) (fun j => (f[i]'hil).keys.length - j) 0 (by simp [findK, GN.enc]) ?_
      rintro j W ⟨hj, rfl⟩
      have hjw := wrap_succ (i := j) (by omega)
      by_cases hj' : j < f[i].keys.length
      · obtain ⟨hr1, hr2⟩ := hrec j hj'
        have hfs := findK_succ (key := key) hr1 hr2 hj'
        have hj2 : j < f[i].l.length := by omega
        by_cases hq : f[i].keys[j] = key
        · rw [if_pos hq] at hfs
          simp (config := { contextual := true, maxSteps := 1000000 }) [-Int.not_le, -Int.not_lt, -Nat.not_le, -Nat.not_lt, hj', hj2, hq, hjw, GN.enc]
          exact ⟨j + 1, by omega, by omega, by simp [hfs]⟩
        · rw [if_neg hq] at hfs
          simp (config := { contextual := true, maxSteps := 1000000 }) [-Int.not_le, -Int.not_lt, -Nat.not_le, -Nat.not_lt, hj', hj2, hq, hjw, GN.enc]
          exact ⟨j + 1, by omega, by omega, by simp [hfs]⟩
      · have hje : j = f[i].keys.length := by omega
        subst hje
        rw [hend]
        simp (config := { contextual := true, maxSteps := 1000000 }) [-Int.not_le, -Int.not_lt, -Nat.not_le, -Nat.not_lt, hwk, hW1, GN.enc]
end Go.Ev
end

/- A reading of an array of two numbers. -/
section
namespace Go.Ev
open Go Go.Proofs Go.RowKit Go.ChangeShapes Go.WideShapes
set_option linter.unusedSimpArgs false
set_option linter.unusedVariables false
set_option maxRecDepth 100000

section
variable {U : Type} {enc : TypeId × Value → U} {w : World}
theorem pair_in {v : Value} {d : DataW U} {ps : List MemPlace} {r : Reach} {b : Nat} (hv : Value.okWide Tryd.prog w r b 45 v) (h : DataW.Trod enc Tryd.prog w 0 (fun _ => true) true 45 v d ps) :
    ∃ x y : Int, v = .agg #[.int .i64 x, .int .i64 y] := by
  obtain ⟨fuel, hf⟩ := h
  obtain ⟨xs, m, rfl, hx, hl, hxl, hel⟩ := DataW.trod_array Tryd.underlying45 hf
  have c1 : Tryd.prog.cellsOf 3 = 1 := by kernel_rfl
  have c2 : Tryd.prog.cellsOf 45 = 2 := by kernel_rfl
  have hag : ∃ cs, v = .agg cs := by
    unfold Value.okWide at hv
    rw [Tryd.underlying45] at hv
    obtain ⟨cs, h, _⟩ := hv
    exact ⟨cs, h⟩
  obtain ⟨⟨cs⟩, rfl⟩ := hag
  simp only [Value.cells] at hl hel
  rw [c2] at hl
  match cs, hl, xs, hxl with
  | [v0, v1], _, [x0, x1], _ =>
    have h0 := hel 0 (by omega)
    have h1 := hel 1 (by omega)
    rw [c1] at h0 h1
    have h0 : Rd enc Tryd.prog w m 3 [v0] x0 := h0
    have h1 : Rd enc Tryd.prog w m 3 [v1] x1 := h1
    obtain ⟨a, ha⟩ := rd_int Tryd.underlying3 h0
    obtain ⟨b, hb⟩ := rd_int Tryd.underlying3 h1
    simp only [List.cons.injEq, and_true] at ha hb
    subst ha; subst hb
    exact ⟨a, b, rfl⟩
end
end Go.Ev
end
