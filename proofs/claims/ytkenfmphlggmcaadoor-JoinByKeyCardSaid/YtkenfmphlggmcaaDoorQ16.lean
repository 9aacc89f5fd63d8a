/- Of what narrowing leaves: plain facts. -/
import Derived.Test.YtkenfmphlggmcaaDoorQ15
import Derived.WalkKit
import Derived.ProofKit
import Derived.Deep.Slices
import Derived.Test.YtkenfmphlggmcaaDoorRows
import Derived.LaidMore
import Derived.Carry
import Derived.OpenShut
import Derived.MakeChecks
import Derived.Stop.Joined

section
namespace Go.Ev
open Go Go.Proofs
set_option linter.unusedSimpArgs false
set_option linter.unusedVariables false
set_option maxRecDepth 100000
set_option maxHeartbeats 400000

theorem at0_app {g t : List GN} {n : Int} (h0 : 0 ≤ n) (h1 : n < (g.length : Int)) : at0 (g ++ t) n = at0 g n := by
  obtain ⟨i, rfl⟩ : ∃ i : Nat, n = i := ⟨n.toNat, by omega⟩
  have hi : i < g.length := by omega
  rw [at0_nat hi, at0_nat (by simp; omega), List.getElem_append_left hi]
theorem members_app {g t : List GN} {n : Int} (h1 : n < (g.length : Int)) : members (g ++ t) n = members g n := by
  unfold members
  by_cases h0 : n < 0
  · rw [if_pos (.inl h0), if_pos (.inl h0)]
  · have e1 : ¬ (n < 0 ∨ (g.length : Int) ≤ n) := by omega
    have e2 : ¬ (n < 0 ∨ ((g ++ t).length : Int) ≤ n) := by simp; omega
    rw [if_neg e1, if_neg e2, at0_app (by omega) h1]
theorem nodeOk_app {g t : List GN} {x : GN} (h : nodeOk g x = true) : nodeOk (g ++ t) x = true := by
  have hp := node_places h
  unfold nodeOk fitP at h ⊢
  simp only [Bool.and_eq_true] at h ⊢
  refine ⟨⟨⟨⟨?_, h.1.1.1.2⟩, h.1.1.2⟩, h.1.2⟩, ?_⟩
  · rw [Bool.not_eq_true', List.any_eq_false]
    intro p hp'
    have := hp p hp'
    simp [outP]
    omega
  · have h2 := h.2
    revert h2
    split
    · exact id
    split
    · exact id
    split
    · exact id
    split
    · intro h2
      simp only [Bool.and_eq_true, List.all_eq_true] at h2 ⊢
      refine ⟨⟨fun p hp' => ?_, h2.1.2⟩, h2.2⟩
      rw [at0_app (hp p hp').1 (hp p hp').2]
      exact h2.1.1 p hp'
    split
    · exact id
    · exact id
theorem checkG_iff {g : List GN} : checkG g = 0 ↔ g.length ≤ 2000 ∧ ∀ n ∈ g, nodeOk g n = true := by
  refine ⟨check_ok0, fun ⟨h1, h2⟩ => ?_⟩
  unfold checkG
  rw [if_neg (by omega), if_pos (List.all_eq_true.2 h2)]
theorem checkG_push {g : List GN} {x : GN} (hg : checkG g = 0) (hl : g.length + 1 ≤ 2000) (hx : nodeOk (g ++ [x]) x = true) : checkG (g ++ [x]) = 0 := by
  rw [checkG_iff]
  refine ⟨by simpa using hl, fun y hy => ?_⟩
  rcases List.mem_append.1 hy with hy | hy
  · exact nodeOk_app ((check_ok0 hg).2 y hy)
  · rw [List.mem_singleton] at hy
    rw [hy]
    exact hx
/-- Is it a place of something that is no union? -/
def Plain (g : List GN) (x : Int) : Prop := inG g x ∧ (at0 g x).kind ≠ 8
theorem Plain.app {g t : List GN} {x : Int} (h : Plain g x) : Plain (g ++ t) x := ⟨⟨h.1.1, by have := h.1.2; simp; omega⟩, by rw [at0_app h.1.1 h.1.2]; exact h.2⟩
theorem Plain.mem {g : List GN} {x : Int} (h : Plain g x) : members g x = [x] := by
  unfold members
  rw [if_neg (by have := h.1.1; have := h.1.2; omega), if_neg h.2]
theorem members_plain {g : List GN} (hc : checkG g = 0) (n : Int) : ∀ m ∈ members g n, Plain g m := fun m hm => by
  have hin := members_in hc n m hm
  refine ⟨hin, ?_⟩
  unfold members at hm
  split at hm
  · cases hm
  · rename_i hn
    split at hm
    · rename_i hk
      have hok := (check_ok0 hc).2 _ (at0_mem hn)
      simp [nodeOk, hk] at hok
      exact hok.2.1.1 m hm
    · rename_i hk
      rw [List.mem_singleton] at hm
      subst hm
      exact hk
theorem allOf_plain {g : List GN} {l : List Int} (h : ∀ x ∈ l, Plain g x) (x : Int) : x ∈ allOf g l ↔ x ∈ l := by
  rw [allOf_mem]
  constructor
  · rintro ⟨n, hn, hx⟩
    rw [(h n hn).mem, List.mem_singleton] at hx
    rw [hx]; exact hn
  · intro hx
    exact ⟨x, hx, by rw [(h x hx).mem]; simp⟩
/-- A join of things that are no unions. -/
theorem joined_plain {g : List GN} (hc : checkG g = 0) (hl : g.length + 1 ≤ 2000) {l : List Int} (hne : l ≠ []) (h : ∀ x ∈ l, Plain g x) :
    checkG (joinedG g l) = 0 ∧ 0 ≤ joinedN g l ∧ joinedN g l < ((joinedG g l).length : Int) ∧ (∀ x, x ∈ members (joinedG g l) (joinedN g l) ↔ x ∈ l) ∧ ∃ t, joinedG g l = g ++ t := by
  have hall := allOf_plain h
  by_cases h1 : (allOf g l).length = 1
  · have e1 : joinedG g l = g := by unfold joinedG; rw [if_pos h1]
    obtain ⟨y, hy⟩ := List.length_eq_one_iff.1 h1
    have e2 : joinedN g l = y := by unfold joinedN; rw [if_pos h1, hy]; rfl
    have hyl : y ∈ l := (hall y).1 (by rw [hy]; simp)
    have hp := h y hyl
    rw [e1, e2]
    refine ⟨hc, hp.1.1, hp.1.2, fun x => ?_, [], by simp⟩
    rw [hp.mem, ← hall x, hy]
  · have e1 : joinedG g l = g ++ [⟨8, 0, [], [], allOf g l⟩] := by unfold joinedG; rw [if_neg h1]
    have e2 : joinedN g l = g.length := by unfold joinedN; rw [if_neg h1]
    have hnd := allOf_nodup g l
    have h2 : 2 ≤ (allOf g l).length := by
      cases l with
      | nil => exact absurd rfl hne
      | cons a l =>
        have : a ∈ allOf g (a :: l) := (hall a).2 (by simp)
        have := List.length_pos_iff.2 (List.ne_nil_of_mem this)
        omega
    have hok : nodeOk (g ++ [⟨8, 0, [], [], allOf g l⟩]) ⟨8, 0, [], [], allOf g l⟩ = true := by
      have hpl : ∀ x ∈ allOf g l, Plain (g ++ [⟨8, 0, [], [], allOf g l⟩]) x := fun x hx => (h x ((hall x).1 hx)).app
      simp only [nodeOk, fitP]
      simp only [Bool.and_eq_true]
      refine ⟨⟨⟨⟨?_, by decide⟩, by decide⟩, by decide⟩, ?_⟩
      · rw [Bool.not_eq_true', List.any_eq_false]
        intro p hp'
        have := (hpl p hp').1
        unfold inG at this
        simp only [outP, Bool.or_eq_true, decide_eq_true_eq]
        omega
      · simp [h2, hnd]
        exact fun x hx => (hpl x hx).2
    rw [e1, e2]
    refine ⟨checkG_push hc hl hok, by omega, by simp; omega, fun x => ?_, _, rfl⟩
    have : members (g ++ [⟨8, 0, [], [], allOf g l⟩]) (g.length : Int) = allOf g l := by
      unfold members
      have hat : at0 (g ++ [⟨8, 0, [], [], allOf g l⟩]) (g.length : Int) = ⟨8, 0, [], [], allOf g l⟩ := by
        rw [at0_nat (by simp)]
        simp
      rw [if_neg (by simp; omega), hat, if_pos rfl]
    rw [this]
    exact hall x
theorem left_plain {g : List GN} (hc : checkG g = 0) (hl : g.length + 1 ≤ 2000) {n : Int} (hn : inG g n) {l : List Int} (h : ∀ x ∈ l, Plain g x) :
    checkG (leftG g n l) = 0 ∧ (leftN g n l = -1 ∧ l = [] ∨ l ≠ [] ∧ 0 ≤ leftN g n l ∧ leftN g n l < ((leftG g n l).length : Int)) ∧ (∀ x, x ∈ members (leftG g n l) (leftN g n l) ↔ x ∈ l) ∧ ∃ t, leftG g n l = g ++ t := by
  unfold leftG leftN
  by_cases h0 : l = []
  · rw [if_pos h0, if_pos h0]
    subst h0
    exact ⟨hc, .inl ⟨rfl, rfl⟩, fun x => by simp [members], [], by simp⟩
  · rw [if_neg h0, if_neg h0]
    by_cases h1 : l = members g n
    · rw [if_pos h1, if_pos h1]
      exact ⟨hc, .inr ⟨h0, hn⟩, fun x => by rw [← h1], [], by simp⟩
    · rw [if_neg h1, if_neg h1]
      obtain ⟨a, b, c, d, e⟩ := joined_plain hc hl h0 h
      exact ⟨a, .inr ⟨h0, b, c⟩, d, e⟩
/-- What is found of a type's members. -/
structure NarI (g : List GN) (key : Str) (sh : GN) (one : Int → BB) (l : List Int) (s : List GN × List Int × List Int) : Prop where
  ext : ∃ c, s.1 = g ++ List.replicate c sh
  yes : ∀ x ∈ s.2.1, (x ∈ l ∧ (one x).1 = true ∧ ¬ ((at0 g x).kind = 1 ∧ key = [] ∧ sh.kind ≠ 7)) ∨ ((g.length : Int) ≤ x ∧ x < (s.1.length : Int) ∧ key = [] ∧ sh.kind ≠ 7)
  no : s.2.2 = l.filter fun x => (one x).2
  emp : s.2.1 = [] ↔ ∀ x ∈ l, (one x).1 = false
  all : ∀ x ∈ l, (one x).1 = true → ¬ ((at0 g x).kind = 1 ∧ key = [] ∧ sh.kind ≠ 7) → x ∈ s.2.1
theorem narI_step {g : List GN} {key : Str} {sh : GN} {one : Int → BB} {l : List Int} {s : List GN × List Int × List Int} (h : NarI g key sh one l s) (m : Int) : NarI g key sh one (l ++ [m]) (stepN g key sh one s m) := by
  obtain ⟨c, hc⟩ := h.ext
  have hno : (if (one m).2 = true then s.2.2 ++ [m] else s.2.2) = (l ++ [m]).filter fun x => (one x).2 := by
    rw [List.filter_append, ← h.no]
    cases h : (one m).2 <;> simp [h]
  have hold : ∀ x ∈ s.2.1, ∀ (s' : List GN), s.1.length ≤ s'.length → (x ∈ l ++ [m] ∧ (one x).1 = true ∧ ¬ ((at0 g x).kind = 1 ∧ key = [] ∧ sh.kind ≠ 7)) ∨ ((g.length : Int) ≤ x ∧ x < (s'.length : Int) ∧ key = [] ∧ sh.kind ≠ 7) := fun x hx s' hs => by
    rcases h.yes x hx with ⟨h1, h2⟩ | ⟨h1, h2, h3⟩
    · exact .inl ⟨List.mem_append_left _ h1, h2⟩
    · exact .inr ⟨h1, by omega, h3⟩
  unfold stepN
  by_cases h1 : (one m).1 = true
  · rw [if_pos h1]
    by_cases hd : (at0 g m).kind = 1 ∧ key = [] ∧ sh.kind ≠ 7
    · rw [if_pos hd]
      refine ⟨⟨c + 1, by rw [hc, List.append_assoc]; congr 1; rw [List.replicate_succ']⟩, fun x hx => ?_, hno, ?_, fun x hx hx1 hx2 => ?_⟩
      · dsimp only at hx ⊢
        rcases List.mem_append.1 hx with hx | hx
        · exact hold x hx _ (by simp)
        · rw [List.mem_singleton] at hx
          right
          rw [hx, List.length_append, List.length_singleton]
          refine ⟨?_, by omega, hd.2⟩
          rw [hc, List.length_append]
          omega
      · constructor
        · intro e; simp at e
        · intro e
          have := e m (by simp)
          rw [h1] at this
          cases this
      · dsimp only
        rcases List.mem_append.1 hx with hx | hx
        · exact List.mem_append_left _ (h.all x hx hx1 hx2)
        · rw [List.mem_singleton] at hx
          subst hx
          exact absurd hd hx2
    · rw [if_neg hd]
      refine ⟨⟨c, hc⟩, fun x hx => ?_, hno, ?_, fun x hx hx1 hx2 => ?_⟩
      · dsimp only at hx ⊢
        rcases List.mem_append.1 hx with hx | hx
        · exact hold x hx _ (Nat.le_refl _)
        · rw [List.mem_singleton] at hx
          rw [hx]
          exact .inl ⟨by simp, h1, hd⟩
      · constructor
        · intro e; simp at e
        · intro e
          have := e m (by simp)
          rw [h1] at this
          cases this
      · dsimp only
        rcases List.mem_append.1 hx with hx | hx
        · exact List.mem_append_left _ (h.all x hx hx1 hx2)
        · rw [List.mem_singleton] at hx
          rw [hx]; simp
  · rw [if_neg h1]
    refine ⟨⟨c, hc⟩, fun x hx => hold x hx _ (Nat.le_refl _), hno, ?_, fun x hx hx1 hx2 => ?_⟩
    · dsimp only
      rw [h.emp]
      constructor
      · intro e x hx
        rcases List.mem_append.1 hx with hx | hx
        · exact e x hx
        · rw [List.mem_singleton] at hx
          rw [hx]
          simpa using h1
      · intro e x hx
        exact e x (List.mem_append_left _ hx)
    · rcases List.mem_append.1 hx with hx | hx
      · exact h.all x hx hx1 hx2
      · rw [List.mem_singleton] at hx
        subst hx
        exact absurd hx1 h1
theorem narI_fold {g : List GN} {key : Str} {sh : GN} {one : Int → BB} : ∀ (l2 l : List Int) (s : List GN × List Int × List Int), NarI g key sh one l s → NarI g key sh one (l ++ l2) (l2.foldl (stepN g key sh one) s)
  | [], l, s, h => by simpa using h
  | m :: l2, l, s, h => by
    rw [List.foldl_cons]
    have := narI_fold l2 (l ++ [m]) _ (narI_step h m)
    simpa using this
theorem narI {g : List GN} {key : Str} {sh : GN} {one : Int → BB} (n : Int) : NarI g key sh one (members g n) (narG g key sh one n) := by
  have := narI_fold (g := g) (key := key) (sh := sh) (one := one) (members g n) [] (g, [], []) ⟨⟨0, by simp⟩, fun x hx => (by cases hx), rfl, by simp, fun x hx => (by cases hx)⟩
  simpa [narG, foldN] using this

/-- A node that has no places, and may be. -/
def Bare (sh : GN) : Prop := nodeOk [] sh = true ∧ sh.keys = [] ∧ sh.l = [] ∧ sh.kind ≠ 8
theorem bare_app {sh : GN} (h : Bare sh) (g : List GN) : nodeOk g sh = true := by
  have := nodeOk_app (t := g) h.1
  simpa using this
theorem rep_ok {g : List GN} {sh : GN} (hc : checkG g = 0) (hb : Bare sh) (c : Nat) (hl : g.length + c ≤ 2000) : checkG (g ++ List.replicate c sh) = 0 := by
  rw [checkG_iff]
  refine ⟨by simp; omega, fun x hx => ?_⟩
  rcases List.mem_append.1 hx with hx | hx
  · exact nodeOk_app ((check_ok0 hc).2 x hx)
  · rw [List.eq_of_mem_replicate hx]
    exact bare_app hb _
structure NarF (g : List GN) (key : Str) (sh : GN) (one : Int → BB) (n : Int) : Prop where
  chk : checkG (narH g key sh one n) = 0
  ext : ∃ t, narH g key sh one n = g ++ t
  len : (narH g key sh one n).length ≤ g.length + g.length + 2
  yes : (narY g key sh one n = -1 ∧ (narG g key sh one n).2.1 = []) ∨ ((narG g key sh one n).2.1 ≠ [] ∧ 0 ≤ narY g key sh one n ∧ narY g key sh one n < ((narH g key sh one n).length : Int))
  no : (narN g key sh one n = -1 ∧ (narG g key sh one n).2.2 = []) ∨ ((narG g key sh one n).2.2 ≠ [] ∧ 0 ≤ narN g key sh one n ∧ narN g key sh one n < ((narH g key sh one n).length : Int))
  my : ∀ x, x ∈ members (narH g key sh one n) (narY g key sh one n) ↔ x ∈ (narG g key sh one n).2.1
  mn : ∀ x, x ∈ members (narH g key sh one n) (narN g key sh one n) ↔ x ∈ (narG g key sh one n).2.2
  new : ∀ x : Int, (g.length : Int) ≤ x → x < ((narG g key sh one n).1.length : Int) → at0 (narH g key sh one n) x = sh
theorem narF {g : List GN} {key : Str} {sh : GN} {one : Int → BB} {n : Int} (hg : Fair g) (hc : checkG g = 0) (hl : g.length ≤ 900) (hn : inG g n) (hb : Bare sh) : NarF g key sh one n := by
  have hI := narI (g := g) (key := key) (sh := sh) (one := one) n
  have hlen := foldN_len (g := g) (key := key) (sh := sh) (one := one) (l := members g n) (s := (g, [], []))
  have hms := members_small hc n
  have hlen1 : (narG g key sh one n).1.length ≤ g.length + g.length := by
    have := hlen.1
    simp only [narG, foldN] at this ⊢
    omega
  obtain ⟨c, hce⟩ := hI.ext
  have hcl : c ≤ g.length := by
    rw [hce] at hlen1
    simp at hlen1
    omega
  have hcG : checkG (narG g key sh one n).1 = 0 := by rw [hce]; exact rep_ok hc hb c (by omega)
  have hpl := members_plain hc n
  have hnG : inG (narG g key sh one n).1 n := ⟨hn.1, by have := hn.2; rw [hce]; simp; omega⟩
  have hly : ∀ x ∈ (narG g key sh one n).2.1, Plain (narG g key sh one n).1 x := fun x hx => by
    rcases hI.yes x hx with ⟨h1, _⟩ | ⟨h1, h2, _⟩
    · rw [hce]; exact (hpl x h1).app
    · refine ⟨⟨by omega, h2⟩, ?_⟩
      obtain ⟨i, rfl⟩ : ∃ i : Nat, x = i := ⟨x.toNat, by omega⟩
      rw [at0_nat (by omega)]
      have : (narG g key sh one n).1[i]'(by omega) = sh := by
        have h3 : i < (g ++ List.replicate c sh).length := by rw [← hce]; omega
        have : (narG g key sh one n).1[i]'(by omega) = (g ++ List.replicate c sh)[i]'h3 := by simp only [hce]
        rw [this, List.getElem_append_right (by omega)]
        simp
      rw [this]
      exact hb.2.2.2
  have hln : ∀ x ∈ (narG g key sh one n).2.2, Plain (narG g key sh one n).1 x := fun x hx => by
    rw [hI.no] at hx
    rw [hce]
    exact (hpl x (List.mem_filter.1 hx).1).app
  obtain ⟨a1, b1, c1, t1, d1⟩ := left_plain hcG (by omega) hnG hly
  have hll1 := left_len (h := (narG g key sh one n).1) (n := n) (l := (narG g key sh one n).2.1)
  have hn2 : inG (leftG (narG g key sh one n).1 n (narG g key sh one n).2.1) n := ⟨hn.1, by have := hnG.2; omega⟩
  obtain ⟨a2, b2, c2, t2, d2⟩ := left_plain a1 (by omega) hn2 (l := (narG g key sh one n).2.2) (fun x hx => by rw [d1]; exact (hln x hx).app)
  have hll2 := left_len (h := leftG (narG g key sh one n).1 n (narG g key sh one n).2.1) (n := n) (l := (narG g key sh one n).2.2)
  have hHe : narH g key sh one n = leftG (leftG (narG g key sh one n).1 n (narG g key sh one n).2.1) n (narG g key sh one n).2.2 := rfl
  have hHt : narH g key sh one n = (narG g key sh one n).1 ++ (t1 ++ t2) := by rw [hHe, d2, d1, List.append_assoc]
  refine ⟨by rw [hHe]; exact a2, ⟨_, by rw [hHt, hce, List.append_assoc]⟩, by rw [hHe]; omega, ?_, b2, fun x => ?_, c2, fun x h1 h2 => ?_⟩
  · rcases b1 with b1 | ⟨b1, b3, b4⟩
    · exact .inl b1
    · refine .inr ⟨b1, b3, ?_⟩
      rw [hHe]
      unfold narY
      omega
  · rw [← c1 x]
    unfold narY
    rw [hHe, d2]
    rcases b1 with ⟨b1, _⟩ | ⟨_, _, b4⟩
    · rw [members_app (by rw [b1]; omega)]
    · rw [members_app b4]
  · rw [hHt, at0_app (by omega) h2]
    obtain ⟨i, rfl⟩ : ∃ i : Nat, x = i := ⟨x.toNat, by omega⟩
    rw [at0_nat (by omega)]
    have h3 : i < (g ++ List.replicate c sh).length := by rw [← hce]; omega
    have : (narG g key sh one n).1[i]'(by omega) = (g ++ List.replicate c sh)[i]'h3 := by simp only [hce]
    rw [this, List.getElem_append_right (by omega)]
    simp
end Go.Ev
end

/- JoinShaped. -/
section
namespace Go.Ev
open Go Go.Proofs
set_option linter.unusedSimpArgs false
set_option linter.unusedVariables false
set_option maxRecDepth 100000
set_option maxHeartbeats 1000000

theorem narV_dyn {g : List GN} {leaf : Int → BB} {m : Int} (h : (at0 g m).kind = 1) : narV g leaf m = (true, true) := by simp [narV, oneF, h]
theorem narV_leaf {g : List GN} {leaf : Int → BB} {m : Int} (h1 : (at0 g m).kind ≠ 1) (h9 : (at0 g m).kind ≠ 9) : narV g leaf m = leaf m := by simp [narV, oneF, h1, h9]
theorem fine_len (g : List GN) : (fineG g).length ≤ 20 := by
  unfold fineG
  split <;> simp
  omega
theorem fine_chk (g : List GN) : checkG (fineG g) = 0 := by
  unfold fineG
  split
  · assumption
  · rfl
theorem fine_fair (g : List GN) : Fair (fineG g) := by
  have hfc := cut_fair g
  unfold fineG
  split
  · exact ⟨by have := hfc.1; simp; omega, fun x hx => hfc.2 x (List.mem_of_mem_take hx)⟩
  · exact ⟨by simp, fun x hx => by cases hx⟩
/-- The shapes of the statements. -/
def shp (w : Int) : Str := shapes7.getD (w % 7).toNat []
theorem shp_all {P : Str → Prop} (h : ∀ s ∈ shapes7, P s) (w : Int) : P (shp w) := by
  refine h _ ?_
  unfold shp
  rw [List.getD_eq_getElem?_getD, List.getElem?_eq_getElem (show (w % 7).toNat < shapes7.length by show _ < 7; omega)]
  exact List.getElem_mem _
theorem shp_bare (w : Int) : Bare (shapeN (shp w)) := shp_all (P := fun s => Bare (shapeN s)) (by unfold Bare; decide) w
theorem shp_is (w : Int) : isShapeB (shp w) = true := shp_all (P := fun s => isShapeB s = true) (by decide) w
/-- Is a node of that shape? -/
def isSh (s : Str) (want : Int) (x : GN) : Bool := (x.kind == want) && (!(x.kind == 5) || (39 :: x.name) == s)
theorem shp_kind (w : Int) : (shapeN (shp w)).kind ≠ 1 ∧ (shapeN (shp w)).kind ≠ 8 ∧ (shapeN (shp w)).kind ≠ 9 ∧ ((shapeN (shp w)).kind = 7 ↔ shp w = [114, 101, 99]) ∧ ((shapeN (shp w)).kind = 5 → shp w = 39 :: (shapeN (shp w)).name) ∧ ((shapeN (shp w)).kind ≠ 5 → (shapeN (shp w)).name = []) :=
  shp_all (P := fun s => (shapeN s).kind ≠ 1 ∧ (shapeN s).kind ≠ 8 ∧ (shapeN s).kind ≠ 9 ∧ ((shapeN s).kind = 7 ↔ s = [114, 101, 99]) ∧ ((shapeN s).kind = 5 → s = 39 :: (shapeN s).name) ∧ ((shapeN s).kind ≠ 5 → (shapeN s).name = [])) (by decide) w
theorem isSh_iff {w : Int} {x : GN} (hn : x.kind ≠ 5 → x.name = []) : isSh (shp w) (shapeN (shp w)).kind x = true ↔ x.kind = (shapeN (shp w)).kind ∧ x.name = (shapeN (shp w)).name := by
  obtain ⟨_, _, _, _, h5, hn5⟩ := shp_kind w
  simp only [isSh, Bool.and_eq_true, beq_iff_eq, Bool.or_eq_true, Bool.not_eq_true', beq_eq_false_iff_ne]
  constructor
  · rintro ⟨h1, h2⟩
    refine ⟨h1, ?_⟩
    by_cases hk : x.kind = 5
    · have h3 := h2.resolve_left (fun e => e hk)
      rw [h5 (by rw [← h1]; exact hk)] at h3
      injection h3
    · rw [hn hk, hn5 (by rw [← h1]; exact hk)]
  · rintro ⟨h1, h2⟩
    refine ⟨h1, ?_⟩
    by_cases hk : x.kind = 5
    · right
      rw [h2]
      exact (h5 (by rw [← h1]; exact hk)).symm
    · exact .inl hk
theorem name_bare {g : List GN} {x : GN} (h : nodeOk g x = true) : x.kind ≠ 5 → x.name = [] := fun hk => by
  simp only [nodeOk, fitP, Bool.and_eq_true, Bool.or_eq_true, beq_iff_eq] at h
  exact h.1.1.2.resolve_right hk
theorem nsh_ok {g : List GN} {n w : Int} (hg : Fair g) (hc : checkG g = 0) (hl : g.length ≤ 20) (hn : inG g n) : nshE g n (shp w) = 0 := by
  have hF := narF (key := []) (one := oneS g (shp w)) hg hc (by omega) hn (shp_bare w)
  have hb : big (narH g [] (shapeN (shp w)) (oneS g (shp w)) n) = false := by
    have := hF.len
    simp [big]
    omega
  have hp : placesG g [n] = 0 := by
    have := hn.1
    have := hn.2
    have ho : outP g n = false := by simp [outP]; omega
    simp [placesG, hc, ho]
  simp [nshE, nrwE, hp, shp_is, hb]
theorem shaped_facts {g : List GN} {n w : Int} (hg : Fair g) (hc : checkG g = 0) (hl : g.length ≤ 20) (hn : inG g n) (hv : ∀ m ∈ members g n, (at0 g m).kind ≠ 9) :
    (∀ m ∈ members (narH g [] (shapeN (shp w)) (oneS g (shp w)) n) (narY g [] (shapeN (shp w)) (oneS g (shp w)) n), isSh (shp w) (shapeN (shp w)).kind (at0 (narH g [] (shapeN (shp w)) (oneS g (shp w)) n) m) = true ∨ (shp w = [114, 101, 99] ∧ (at0 (narH g [] (shapeN (shp w)) (oneS g (shp w)) n) m).kind = 1)) ∧
    (∀ m ∈ members (narH g [] (shapeN (shp w)) (oneS g (shp w)) n) (narN g [] (shapeN (shp w)) (oneS g (shp w)) n), isSh (shp w) (shapeN (shp w)).kind (at0 (narH g [] (shapeN (shp w)) (oneS g (shp w)) n) m) = false) := by
  have hF := narF (key := []) (one := oneS g (shp w)) hg hc (by omega) hn (shp_bare w)
  have hI := narI (g := g) (key := []) (sh := shapeN (shp w)) (one := oneS g (shp w)) n
  obtain ⟨t, ht⟩ := hF.ext
  have hpl := members_plain hc n
  obtain ⟨k1, k8, k9, k7, k5, kn⟩ := shp_kind w
  have hok : ∀ m ∈ members g n, nodeOk g (at0 g m) = true := fun m hm => (check_ok0 hc).2 _ (at0_mem (by have := (hpl m hm).1; unfold inG at this; omega))
  have hat : ∀ m ∈ members g n, at0 (narH g [] (shapeN (shp w)) (oneS g (shp w)) n) m = at0 g m := fun m hm => by rw [ht, at0_app (hpl m hm).1.1 (hpl m hm).1.2]
  constructor
  · intro m hm
    rw [hF.my] at hm
    rcases hI.yes m hm with ⟨h1, h2, h3⟩ | ⟨h1, h2, _, _⟩
    · rw [hat m h1]
      by_cases hk : (at0 g m).kind = 1
      · right
        refine ⟨?_, hk⟩
        rw [← k7]
        by_cases h7 : (shapeN (shp w)).kind = 7
        · exact h7
        · exact absurd ⟨hk, rfl, h7⟩ h3
      · left
        rw [isSh_iff (name_bare (hok m h1))]
        unfold oneS at h2
        rw [narV_leaf hk (hv m h1)] at h2
        simpa [plainF] using h2
    · left
      rw [hF.new m h1 h2, isSh_iff kn]
      exact ⟨rfl, rfl⟩
  · intro m hm
    rw [hF.mn, hI.no, List.mem_filter] at hm
    obtain ⟨h1, h2⟩ := hm
    rw [hat m h1, Bool.eq_false_iff, ne_eq, isSh_iff (name_bare (hok m h1))]
    rintro ⟨e1, e2⟩
    have hk : (at0 g m).kind ≠ 1 := by rw [e1]; exact k1
    unfold oneS at h2
    rw [narV_leaf hk (hv m h1)] at h2
    simp [plainF, e1, e2] at h2
end Go.Ev
end

/- JoinShaped: the walk. -/
section
namespace Go.Ev
open Go Go.Proofs
set_option linter.unusedSimpArgs false
set_option linter.unusedVariables false
set_option maxRecDepth 100000
set_option maxHeartbeats 1000000

theorem loose_no {g : List GN} (hc : checkG g = 0) {n kind : Int} (h : looseB g n kind = false) : ∀ m ∈ members g n, (at0 g m).kind ≠ kind := fun m hm e => by
  have := List.any_eq_false.1 h m hm
  have hin := members_in hc n m hm
  simp [hin.1, hin.2, e] at this
theorem name_len {g : List GN} {x : GN} (h : nodeOk g x = true) : x.name.length ≤ 16 := by
  by_cases h5 : x.kind = 5
  · simp only [nodeOk, h5] at h
    simp at h
    rcases h.2.2 with h | h
    · unfold isName isTagged formedP at h
      simp at h
      omega
    · have : ∀ s ∈ keyWords, s.length ≤ 16 := by decide
      exact this _ h
  · rw [name_bare h h5]
    simp
theorem joinShaped_ok (g : List GN) (k : Cap) (n w : Int) (H : Heap) (hg : g.length < 2 ^ 62) (hn : ∀ n ∈ g, n.name.length < 2 ^ 62 ∧ n.l.length < 2 ^ 62 ∧ n.keys.length < 2 ^ 62 ∧ ∀ s ∈ n.keys, s.length < 2 ^ 62) : CallR ep dQ 4 [.fz (nodes g) k, .int .i64 n, .int .i64 w] H (.bool true) H [] := by
  have hfi := fun G => (fine_ok g k G hg hn).val
  have hwk := fun G => (works_ok G).val
  have hl := fine_len g
  have hc := fine_chk g
  have hf := fine_fair g
  generalize fineG g = f at *
  have hshp := fun G => (shape_ok w G).val
  rw [show shapes7.getD (w % 7).toNat [] = shp w from rfl] at hshp
  by_cases h0 : f.length = 0
  · have h0' : (f.length : Int) = 0 := by omega
    refine CallW.is (CallW.body rfl fn_4 (by unfold Tryd.f4; rfl) (by rfl) (by unfold Tryd.f4; simp) ?_)
    unfold Tryd.f4
    simp (config := { contextual := true, maxSteps := 1000000 }) [-Int.not_le, -Int.not_lt, -Nat.not_le, -Nat.not_lt, hfi, hwk, h0']
  · have h0' : ¬ (f.length : Int) = 0 := by omega
    have hf0 : ¬ f = [] := fun e => h0 (by rw [e]; rfl)
    have hb := fun G => (bring_ok n f.length (by omega) (by omega) G).val
    have hb7 := fun G => (bring_ok w 7 (by omega) (by omega) G).val
    have hin : inG f (n % f.length) := ⟨Int.emod_nonneg _ h0', Int.emod_lt_of_pos _ (by omega)⟩
    have hw7 : 0 ≤ w % 7 := by omega
    generalize n % f.length = p at *
    have hnr := fun G => (narrow_ok f .no p (shp w) G hf).val
    rw [nsh_ok hf hc hl hin] at hnr
    simp only [nrwV, if_true] at hnr
    have hF := narF (key := []) (one := oneS f (shp w)) hf hc (by omega) hin (shp_bare w)
    obtain ⟨hfh, _, _⟩ := narH_ok hf hc (key := []) (one := oneS f (shp w)) (shapeN_bare (shp w)) p
    have hfacts := shaped_facts (w := w) hf hc hl hin
    have hck := hF.chk
    have hmi := members_in hck
    generalize narH f [] (shapeN (shp w)) (oneS f (shp w)) p = h at *
    generalize narY f [] (shapeN (shp w)) (oneS f (shp w)) p = yes at *
    generalize narN f [] (shapeN (shp w)) (oneS f (shp w)) p = no at *
    have hch := fun G => (check_ok h .no G hfh).val
    rw [hck] at hch
    have hlo := fun G => (loose_ok f .no p 9 G hf).val
    have hmem := fun G x => (members_ok h .no x G hfh).val
    have hml := members_len hfh
    by_cases hv : looseB f p 9 = true
    · refine CallW.is (CallW.body rfl fn_4 (by unfold Tryd.f4; rfl) (by rfl) (by unfold Tryd.f4; simp) ?_)
      unfold Tryd.f4
      simp (config := { contextual := true, maxSteps := 1000000 }) [-Int.not_le, -Int.not_lt, -Nat.not_le, -Nat.not_lt, hfi, hwk, h0', hf0, hb, hshp, hnr, hch, hlo, hv]
    · have hv' : looseB f p 9 = false := by simpa using hv
      obtain ⟨hY, hN⟩ := hfacts (loose_no hc hv')
      have hc7 : w % 7 = 0 ∨ w % 7 = 1 ∨ w % 7 = 2 ∨ w % 7 = 3 ∨ w % 7 = 4 ∨ w % 7 = 5 ∨ w % 7 = 6 := by omega
      have hwant : ([2, 3, 4, 7, 5, 5, 5] : List Int).getD (w % 7).toNat 0 = (shapeN (shp w)).kind := by
        unfold shp
        rcases hc7 with e | e | e | e | e | e | e <;> (rw [e]; rfl)
      have hget : (ints [2, 3, 4, 7, 5, 5, 5])[(w % 7).toNat]? = some [.int .i64 (shapeN (shp w)).kind] := by
        rw [← hwant]
        rcases hc7 with e | e | e | e | e | e | e <;> (rw [e]; rfl)
      have hints : ([[.int .i64 2], [.int .i64 3], [.int .i64 4], [.int .i64 7], [.int .i64 5], [.int .i64 5], [.int .i64 5]] : List (List EV)) = ints [2, 3, 4, 7, 5, 5, 5] := rfl
      have hwk1 := (shp_kind w).1
      generalize (shapeN (shp w)).kind = want at *
      have hwk2 : ¬ 1 = want := fun e => hwk1 e.symm
      generalize shp w = s at *
      refine CallW.is (CallW.body rfl fn_4 (by unfold Tryd.f4; rfl) (by rfl) (by unfold Tryd.f4; simp) ?_)
      unfold Tryd.f4
      simp (config := { contextual := true, maxSteps := 1000000 }) [-Int.not_le, -Int.not_lt, -Nat.not_le, -Nat.not_lt, hfi, hwk, h0', hf0, hb, hshp, hnr, hch, hlo, hv', hb7, hw7, hints, ↓hget]
      refine LoopI.inv (fun x : Nat × Heap => [(7, .str s), (8, .fz (nodes h) .no), (9, .int .i64 yes), (10, .int .i64 no), (12, .int .i64 want), (13, .int .i64 x.1)]) (fun x => x.2) (fun x W => x.1 ≤ 2 ∧ H.length ≤ x.2.length ∧ ∀ y ∈ W, H.length ≤ y) (fun x => 2 - x.1) (0, H) (by simp) ?_
      rintro ⟨q, G⟩ W ⟨hq, hG, hW⟩
      dsimp only at hq hG hW
      have hq3 : q = 0 ∨ q = 1 ∨ q = 2 := by omega
      have hqw := wrap_succ (i := q) (by omega)
      rcases hq3 with rfl | rfl | rfl
      · simp (config := { contextual := true, maxSteps := 1000000 }) [-Int.not_le, -Int.not_lt, -Nat.not_le, -Nat.not_lt, hmem]
        have hlen := hml yes
        refine LoopI.inv (fun x : Nat × Heap => [(7, .str s), (8, .fz (nodes h) .no), (9, .int .i64 yes), (10, .int .i64 no), (12, .int .i64 want), (13, .int .i64 0), (14, .fz (ints (members h yes)) .no), (15, .int .i64 x.1)]) (fun x => x.2) (fun x W' => x.1 ≤ (members h yes).length ∧ H.length ≤ x.2.length ∧ ∀ y ∈ W ++ W', H.length ≤ y) (fun x => (members h yes).length - x.1) (0, G) (by simp; exact ⟨hG, hW⟩) ?_
        rintro ⟨i, G2⟩ W2 ⟨hi, hG2, hW2⟩
        dsimp only at hi hG2 hW2
        have hiw := wrap_succ (i := i) (by omega)
        by_cases hi' : i < (members h yes).length
        · have hm0 := hmi yes _ (List.getElem_mem hi')
          have hfact := hY _ (List.getElem_mem hi')
          obtain ⟨m, hme⟩ : ∃ m, m = (members h yes)[i] := ⟨_, rfl⟩
          rw [← hme] at hm0 hfact
          obtain ⟨j, rfl⟩ : ∃ j : Nat, m = j := ⟨m.toNat, by omega⟩
          have hjl : j < h.length := by omega
          have hat := at0_nat hjl
          rw [hat] at hfact
          have hj0 : ¬ ((j : Int) < 0) := by omega
          have hj1 : ¬ h.length ≤ j := by omega
          have hnl := name_len ((check_ok0 hck).2 _ (List.getElem_mem hjl))
          have hnl2 : h[j].name.length + 1 ≤ 9223372036854775807 := by omega
          have hnl3 : 1 + h[j].name.length ≤ 9223372036854775807 := by omega
          have hW3 : ∀ y ∈ W ++ (W2 ++ [G2.length]), H.length ≤ y := fun y hy => by
            simp only [← List.append_assoc] at hy
            rcases List.mem_append.1 hy with hy | hy
            · exact hW2 y hy
            · rw [List.mem_singleton] at hy; omega
          rcases hfact with hfa | ⟨hs, hk⟩
          · simp only [isSh, Bool.and_eq_true, beq_iff_eq, Bool.or_eq_true, Bool.not_eq_true', beq_eq_false_iff_ne] at hfa
            obtain ⟨e1, e2⟩ := hfa
            by_cases h5 : want = 5
            · have h39 := e2.resolve_left (fun e => e (e1.trans h5))
              simp (config := { contextual := true, maxSteps := 1000000 }) [-Int.not_le, -Int.not_lt, -Nat.not_le, -Nat.not_lt, hi', hiw, ← hme, hjl, hj0, hj1, hwk1, hwk2, e1, h5, h39, hnl2, hnl3]
              exact ⟨i + 1, by omega, _, ⟨by omega, by simp; omega, fun y hy => hW3 y (by simpa using hy)⟩, rfl, by simp⟩
            · simp (config := { contextual := true, maxSteps := 1000000 }) [-Int.not_le, -Int.not_lt, -Nat.not_le, -Nat.not_lt, hi', hiw, ← hme, hjl, hj0, hj1, hwk1, hwk2, e1, h5]
              exact ⟨i + 1, by omega, _, ⟨by omega, by simp; omega, fun y hy => hW3 y (by simpa using hy)⟩, rfl, by simp⟩
          · simp (config := { contextual := true, maxSteps := 1000000 }) [-Int.not_le, -Int.not_lt, -Nat.not_le, -Nat.not_lt, hi', hiw, ← hme, hjl, hj0, hj1, hwk1, hwk2, hk, hs]
            exact ⟨i + 1, by omega, _, ⟨by omega, by simp; omega, fun y hy => hW3 y (by simpa using hy)⟩, rfl, by simp⟩
        · simp (config := { contextual := true, maxSteps := 1000000 }) [-Int.not_le, -Int.not_lt, -Nat.not_le, -Nat.not_lt, hi', hiw, hqw]
          exact ⟨1, by omega, _, ⟨by omega, hG2, fun y hy => hW2 y (by simpa using hy)⟩, rfl, wrap64 (by omega) (by omega)⟩
      · simp (config := { contextual := true, maxSteps := 1000000 }) [-Int.not_le, -Int.not_lt, -Nat.not_le, -Nat.not_lt, hmem]
        have hlen := hml no
        refine LoopI.inv (fun x : Nat × Heap => [(7, .str s), (8, .fz (nodes h) .no), (9, .int .i64 yes), (10, .int .i64 no), (12, .int .i64 want), (13, .int .i64 1), (14, .fz (ints (members h no)) .no), (15, .int .i64 x.1)]) (fun x => x.2) (fun x W' => x.1 ≤ (members h no).length ∧ H.length ≤ x.2.length ∧ ∀ y ∈ W ++ W', H.length ≤ y) (fun x => (members h no).length - x.1) (0, G) (by simp; exact ⟨hG, hW⟩) ?_
        rintro ⟨i, G2⟩ W2 ⟨hi, hG2, hW2⟩
        dsimp only at hi hG2 hW2
        have hiw := wrap_succ (i := i) (by omega)
        by_cases hi' : i < (members h no).length
        · have hm0 := hmi no _ (List.getElem_mem hi')
          have hfact := hN _ (List.getElem_mem hi')
          obtain ⟨m, hme⟩ : ∃ m, m = (members h no)[i] := ⟨_, rfl⟩
          rw [← hme] at hm0 hfact
          obtain ⟨j, rfl⟩ : ∃ j : Nat, m = j := ⟨m.toNat, by omega⟩
          have hjl : j < h.length := by omega
          have hat := at0_nat hjl
          rw [hat] at hfact
          have hj0 : ¬ ((j : Int) < 0) := by omega
          have hj1 : ¬ h.length ≤ j := by omega
          have hnl := name_len ((check_ok0 hck).2 _ (List.getElem_mem hjl))
          have hnl2 : h[j].name.length + 1 ≤ 9223372036854775807 := by omega
          have hnl3 : 1 + h[j].name.length ≤ 9223372036854775807 := by omega
          have hW3 : ∀ y ∈ W ++ (W2 ++ [G2.length]), H.length ≤ y := fun y hy => by
            simp only [← List.append_assoc] at hy
            rcases List.mem_append.1 hy with hy | hy
            · exact hW2 y hy
            · rw [List.mem_singleton] at hy; omega
          simp only [isSh, Bool.and_eq_false_iff, beq_eq_false_iff_ne, Bool.or_eq_false_iff, Bool.not_eq_false', beq_iff_eq] at hfact
          by_cases e1 : h[j].kind = want
          · obtain ⟨h5, h39⟩ := hfact.resolve_left (fun e => e e1)
            have hw5 : want = 5 := by rw [← e1]; exact h5
            simp (config := { contextual := true, maxSteps := 1000000 }) [-Int.not_le, -Int.not_lt, -Nat.not_le, -Nat.not_lt, hi', hiw, ← hme, hjl, hj0, hj1, hwk1, hwk2, h5, hw5, h39, hnl2, hnl3]
            exact ⟨i + 1, by omega, _, ⟨by omega, by simp; omega, fun y hy => hW3 y (by simpa using hy)⟩, rfl, by simp⟩
          · simp (config := { contextual := true, maxSteps := 1000000 }) [-Int.not_le, -Int.not_lt, -Nat.not_le, -Nat.not_lt, hi', hiw, ← hme, hjl, hj0, hj1, hwk1, hwk2, e1]
            exact ⟨i + 1, by omega, _, ⟨by omega, by simp; omega, fun y hy => hW3 y (by simpa using hy)⟩, rfl, by simp⟩
        · simp (config := { contextual := true, maxSteps := 1000000 }) [-Int.not_le, -Int.not_lt, -Nat.not_le, -Nat.not_lt, hi', hiw, hqw]
          exact ⟨2, by omega, _, ⟨by omega, hG2, fun y hy => hW2 y (by simpa using hy)⟩, rfl, wrap64 (by omega) (by omega)⟩
      · simp (config := { contextual := true, maxSteps := 1000000 }) [-Int.not_le, -Int.not_lt, -Nat.not_le, -Nat.not_lt, hwk, hf1 hW]
end Go.Ev
end

/- Clone of nothing; what is asked of the functions that are told by hand. -/
section
namespace Go.Ev
open Go Go.Proofs
set_option linter.unusedSimpArgs false
set_option linter.unusedVariables false
set_option maxRecDepth 100000

/-- A new block that nobody knows. -/
theorem Ok.more {Fr : Nat → Nat → Prop} {β : Bt} {H : Heap} {w : World} (hr : Rel Fr β H w) (t : TypeId) : ∃ Fr' β', Ok Fr β H w Fr' β' H (w.alloc (Obj.cells #[] t)) := by
  have h := Ok.new (w' := w.alloc (Obj.cells #[] t)) (ob := .cells []) (obj := Obj.cells #[] t) (Fr' := Fr) hr (fun b x => ⟨fun h => .inl h, fun h => h.elim id fun h => (h.2 trivial).elim⟩) rfl rfl rfl rfl
    (fun cs hcs => by cases hcs; exact ⟨#[], t, _, [], rfl, .nil, fun j v h => by simp at h⟩) (fun es h => by cases h) (fun m h => by cases h) (fun h => by cases h)
  obtain ⟨Fr3, β3, h3, _⟩ := finishE_ok hr h Grw.app (pol := 0) (W := []) (e := .bool true) (e' := .bool true) (v := .bool true) (H' := H) (W' := []) .bool rfl
  exact ⟨Fr3, β3, h3⟩

section
variable {Fr : Nat → Nat → Prop} {β : Bt} {H : Heap} {w : World} {v : Value} {k : Cap}
theorem VR.empty (h : VR Fr w β (.fz [] k) v) : ∃ A c, v = .slice A 0 c := by
  cases h with
  | fz0 => exact ⟨_, _, rfl⟩
  | fz h hz hc hl => simp at hl; subst hl; exact ⟨_, _, rfl⟩

theorem clone_int0 (c : Nat) (w : World) : Calls Tryd.prog 50 #[.slice none 0 c] w fun e w' => e = .returned (.slice none 0 0) ∧ w' = w := by
  have h : Sem.run Tryd.prog (binOp BinOp.eql 23 (Value.slice none 0 c) (Value.slice none 0 0)) w = .ok (.bool true) w := by kernel_rfl
  go_enter Tryd.func50, Tryd.ntmps50
  go_wp2
  go_ret
  exact ⟨rfl, rfl⟩
theorem clone_int1 (a : Addr) (c : Nat) (w : World) : Calls Tryd.prog 50 #[.slice (some a) 0 c] w fun e w' => ∃ B t, e = .returned (.slice B 0 0) ∧ w' = w.alloc (Obj.cells #[] t) := by
  have h : Sem.run Tryd.prog (binOp BinOp.eql 23 (Value.slice (some a) 0 c) (Value.slice none 0 0)) w = .ok (.bool false) w := by kernel_rfl
  go_enter Tryd.func50, Tryd.ntmps50
  go_wp2
  go_ret
  exact ⟨_, _, rfl, rfl⟩
theorem clone_ok_int (hr : Rel Fr β H w) (hk : VR Fr w β (.fz [] k) v) {k' : Cap} (hk' : ∀ o, k' ≠ .tok o) : Yields Tryd.prog 50 #[v] w (Rets Fr β H w (.fz [] k') H) := by
  refine .inl ⟨by simp [callFunc, Tryd.func50]; kernel_rfl, ?_⟩
  obtain ⟨A, c, rfl⟩ := hk.empty
  cases A with
  | none =>
    refine (clone_int0 c w).mono fun e w' ⟨he, hw⟩ => ?_
    subst hw
    exact ⟨_, _, _, he, Ok.refl hr, .fz0 (fun _ => rfl) hk'⟩
  | some a =>
    refine (clone_int1 a c w).mono fun e w' ⟨B, t, he, hw⟩ => ?_
    subst hw
    obtain ⟨Fr', β', h⟩ := Ok.more hr t
    exact ⟨_, _, _, he, h, .fz0 (fun _ => rfl) hk'⟩
theorem clone_GNode0 (c : Nat) (w : World) : Calls Tryd.prog 54 #[.slice none 0 c] w fun e w' => e = .returned (.slice none 0 0) ∧ w' = w := by
  have h : Sem.run Tryd.prog (binOp BinOp.eql 22 (Value.slice none 0 c) (Value.slice none 0 0)) w = .ok (.bool true) w := by kernel_rfl
  go_enter Tryd.func54, Tryd.ntmps54
  go_wp2
  go_ret
  exact ⟨rfl, rfl⟩
theorem clone_GNode1 (a : Addr) (c : Nat) (w : World) : Calls Tryd.prog 54 #[.slice (some a) 0 c] w fun e w' => ∃ B t, e = .returned (.slice B 0 0) ∧ w' = w.alloc (Obj.cells #[] t) := by
  have h : Sem.run Tryd.prog (binOp BinOp.eql 22 (Value.slice (some a) 0 c) (Value.slice none 0 0)) w = .ok (.bool false) w := by kernel_rfl
  go_enter Tryd.func54, Tryd.ntmps54
  go_wp2
  go_ret
  exact ⟨_, _, rfl, rfl⟩
theorem clone_ok_GNode (hr : Rel Fr β H w) (hk : VR Fr w β (.fz [] k) v) {k' : Cap} (hk' : ∀ o, k' ≠ .tok o) : Yields Tryd.prog 54 #[v] w (Rets Fr β H w (.fz [] k') H) := by
  refine .inl ⟨by simp [callFunc, Tryd.func54]; kernel_rfl, ?_⟩
  obtain ⟨A, c, rfl⟩ := hk.empty
  cases A with
  | none =>
    refine (clone_GNode0 c w).mono fun e w' ⟨he, hw⟩ => ?_
    subst hw
    exact ⟨_, _, _, he, Ok.refl hr, .fz0 (fun _ => rfl) hk'⟩
  | some a =>
    refine (clone_GNode1 a c w).mono fun e w' ⟨B, t, he, hw⟩ => ?_
    subst hw
    obtain ⟨Fr', β', h⟩ := Ok.more hr t
    exact ⟨_, _, _, he, h, .fz0 (fun _ => rfl) hk'⟩
theorem clone_string0 (c : Nat) (w : World) : Calls Tryd.prog 55 #[.slice none 0 c] w fun e w' => e = .returned (.slice none 0 0) ∧ w' = w := by
  have h : Sem.run Tryd.prog (binOp BinOp.eql 42 (Value.slice none 0 c) (Value.slice none 0 0)) w = .ok (.bool true) w := by kernel_rfl
  go_enter Tryd.func55, Tryd.ntmps55
  go_wp2
  go_ret
  exact ⟨rfl, rfl⟩
theorem clone_string1 (a : Addr) (c : Nat) (w : World) : Calls Tryd.prog 55 #[.slice (some a) 0 c] w fun e w' => ∃ B t, e = .returned (.slice B 0 0) ∧ w' = w.alloc (Obj.cells #[] t) := by
  have h : Sem.run Tryd.prog (binOp BinOp.eql 42 (Value.slice (some a) 0 c) (Value.slice none 0 0)) w = .ok (.bool false) w := by kernel_rfl
  go_enter Tryd.func55, Tryd.ntmps55
  go_wp2
  go_ret
  exact ⟨_, _, rfl, rfl⟩
theorem clone_ok_string (hr : Rel Fr β H w) (hk : VR Fr w β (.fz [] k) v) {k' : Cap} (hk' : ∀ o, k' ≠ .tok o) : Yields Tryd.prog 55 #[v] w (Rets Fr β H w (.fz [] k') H) := by
  refine .inl ⟨by simp [callFunc, Tryd.func55]; kernel_rfl, ?_⟩
  obtain ⟨A, c, rfl⟩ := hk.empty
  cases A with
  | none =>
    refine (clone_string0 c w).mono fun e w' ⟨he, hw⟩ => ?_
    subst hw
    exact ⟨_, _, _, he, Ok.refl hr, .fz0 (fun _ => rfl) hk'⟩
  | some a =>
    refine (clone_string1 a c w).mono fun e w' ⟨B, t, he, hw⟩ => ?_
    subst hw
    obtain ⟨Fr', β', h⟩ := Ok.more hr t
    exact ⟨_, _, _, he, h, .fz0 (fun _ => rfl) hk'⟩
end
theorem tells : TellsOk Tryd.prog theG theI := by
  refine ⟨fun f args H v H' W h Fr β w vals hr hg hv => ?_, fun f args H v H' W h => ?_⟩
  · unfold theI at h
    split at h
    · rename_i hf
      split at h
      · rename_i k
        cases hv with
        | cons h0 h1 =>
          cases h1
          injection h with h
          injection h with h2 h
          injection h with h3 h
          subst h2; subst h3
          rcases hf with rfl | rfl
          · exact clone_ok_int hr h0 (fun o h => by cases h)
          · exact clone_ok_GNode hr h0 (fun o h => by cases h)
      · cases h
    · split at h
      · rename_i hf
        split at h
        · rename_i k
          cases hv with
          | cons h0 h1 =>
            cases h1
            injection h with h
            injection h with h2 h
            injection h with h3 h
            subst h2; subst h3
            subst hf
            exact clone_ok_string hr h0 (fun o h => by cases h)
        · cases h
      · cases h
  · unfold theI at h
    split at h
    · split at h
      · injection h with h
        injection h with h2 h
        injection h with h3 h
        subst h3
        exact Grw.refl
      · cases h
    · split at h
      · split at h
        · injection h with h
          injection h with h2 h
          injection h with h3 h
          subst h3
          exact Grw.refl
        · cases h
      · cases h
end Go.Ev
end

/- What a reading of the arguments says: slices, structs, texts, numbers as values of E. -/
section
namespace Go.Ev
open Go Go.Proofs
set_option linter.unusedSimpArgs false
set_option linter.unusedVariables false
set_option maxRecDepth 100000

/-- What is there now stays. -/
def There (w : World) (b _x : Nat) : Prop := b < w.heap.size
theorem there_rel (w : World) : Rel (There w) [] [] w where
  len := rfl
  cells := fun o cs b s h => by simp at h
  maps := fun o cs b s h => by simp at h
  tips := fun o cs b s h => by simp at h
  live := fun o b s h => by simp at h
  free := fun b x h => by obtain ⟨o, s, ob, h, _⟩ := h; simp at h
  inj := fun o o' b s s' h => by simp at h
  old := fun b x h => h
theorem cell_there {w : World} {a : Addr} {v : Value} (h : w.cell? a = some v) : There w a.block a.off ∧ a.spot = none := by
  unfold World.cell? at h
  split at h
  · rename_i c _ _ hc
    refine ⟨(Array.getElem?_eq_some_iff.1 hc).1, ?_⟩
    cases hs : a.spot with
    | none => rfl
    | some s => simp [hs] at h
  · cases h

theorem VRs.mk {Fr : Nat → Nat → Prop} {w : World} {β : Bt} : ∀ {es : List EV} {vs : List Value}, es.length = vs.length → (∀ (i : Nat) (e : EV) (v : Value), es[i]? = some e → vs[i]? = some v → VR Fr w β e v) → VRs Fr w β es vs
  | [], [], _, _ => .nil
  | _ :: _, [], h, _ => by simp at h
  | [], _ :: _, h, _ => by simp at h
  | e :: es, v :: vs, h, k => .cons (k 0 e v rfl rfl) (VRs.mk (by simpa using h) fun i e v h1 h2 => k (i + 1) e v (by simpa using h1) (by simpa using h2))

section
variable {U : Type} {enc : TypeId × Value → U} {P : Program} {w : World}
/-- No reading is larger than what a machine holds. -/
def Wt (P : Program) (t : TypeId) (d : DataW U) : Prop := ∀ n ∈ d.weights P t, n ≤ reachBytes
abbrev Rd (enc : TypeId × Value → U) (P : Program) (w : World) (fuel : Nat) (t : TypeId) (cs : List Value) (x : DataW U × List MemPlace) : Prop := DataW.trod enc P w 0 (fun _ => true) true fuel t cs = some x
theorem weightsAll_mem {e : TypeId} : ∀ {l : List (DataW U)} {d : DataW U}, d ∈ l → ∀ n ∈ d.weights P e, n ∈ DataW.weightsAll P e l
  | x :: r, d, h, n, hn => by
    rw [DataW.weightsAll]
    rcases List.mem_cons.1 h with rfl | h
    · exact List.mem_append_left _ hn
    · exact List.mem_append_right _ (weightsAll_mem h n hn)
theorem weightsEach_get : ∀ {ts : List TypeId} {l : List (DataW U)} {i : Nat} {t : TypeId} {d : DataW U}, ts[i]? = some t → l[i]? = some d → ∀ n ∈ d.weights P t, n ∈ DataW.weightsEach P ts l
  | t :: ts, x :: r, 0, t', d, h1, h2, n, hn => by
    simp at h1 h2
    subst h1; subst h2
    rw [DataW.weightsEach]
    exact List.mem_append_left _ hn
  | t :: ts, x :: r, i + 1, t', d, h1, h2, n, hn => by
    rw [DataW.weightsEach]
    exact List.mem_append_right _ (weightsEach_get (i := i) (by simpa using h1) (by simpa using h2) n hn)
  | [], _, _, _, _, h1, _, _, _ => by simp at h1
  | _ :: _, [], _, _, _, _, h2, _, _ => by simp at h2

theorem reach_lt {n : Nat} (h : n ≤ reachBytes) : n < 2 ^ 62 := Nat.lt_of_le_of_lt h (by decide)

theorem rd_int {t : TypeId} {k : IntKind} (ht : P.underlying t = some (.int k)) {fuel : Nat} {cs : List Value} {x : DataW U × List MemPlace} (h : Rd enc P w fuel t cs x) : ∃ n, cs = [.int k n] := by
  obtain ⟨n, h, _⟩ := DataW.trod_int ht h
  exact ⟨n, h⟩
theorem rd_str {t : TypeId} (ht : P.underlying t = some .string) {fuel : Nat} {cs : List Value} {x : DataW U × List MemPlace} (h : Rd enc P w fuel t cs x) (hw : Wt P t x.1) :
    ∃ (s : Str) (v : Value), cs = [v] ∧ VR (There w) w [] (.str s) v ∧ s.length < 2 ^ 62 := by
  obtain ⟨b, rfl, rfl, _⟩ := DataW.trod_string ht h
  exact ⟨_, _, rfl, .str rfl, reach_lt (hw _ (by simp [DataW.weights]))⟩

theorem rd_slice {α : Type} {t e : TypeId} {z : Nat} {f : α → List EV} {Q : α → Prop} (ht : P.underlying t = some (.slice e)) (hz : P.cellsOf e = z) (hz0 : 0 < z) (hb : 0 < P.bytesOf e)
    (hel : ∀ (fuel : Nat) (cs : List Value) (x : DataW U × List MemPlace), Rd enc P w fuel e cs x → Wt P e x.1 → ∃ a, VRs (There w) w [] (f a) cs ∧ Q a)
    {fuel : Nat} {cs : List Value} {x : DataW U × List MemPlace} (h : Rd enc P w fuel t cs x) (hw : Wt P t x.1) :
    ∃ (l : List α) (v : Value), cs = [v] ∧ VR (There w) w [] (.fz (l.map f) .no) v ∧ l.length < 2 ^ 62 ∧ ∀ a ∈ l, Q a := by
  rcases _root_.Go.Deep.open_slice ht h with ⟨rfl, rfl⟩ | ⟨a, len, cap, m, n, D, Pl, rfl, _, hlc, _, hm, rfl, hx⟩
  · exact ⟨[], _, rfl, .fz0 (fun h => by cases h) (fun o h => by cases h), by simp, fun a h => by simp at h⟩
  simp only [if_true] at hm
  subst hm
  have hW : ∀ i, i < len → Wt P e (D i) := fun i hi n hn => hw n (by
    simp only [DataW.weights, ht, List.mem_cons, List.mem_append]
    exact .inr (.inl (weightsAll_mem (List.mem_map.2 ⟨i, List.mem_range.2 hi, rfl⟩) n hn)))
  have hlen : len < 2 ^ 62 := by
    refine reach_lt (Nat.le_trans ?_ (hw _ (by simp only [DataW.weights, ht, List.mem_cons]; exact .inl rfl)))
    simp only [List.length_map, List.length_range]
    exact Nat.le_trans (by omega) (Nat.le_mul_of_pos_right _ hb)
  by_cases h0 : len = 0
  · subst h0
    exact ⟨[], _, rfl, .fz0 (fun h => by cases h) (fun o h => by cases h), by simp, fun a h => by simp at h⟩
  have hsp : a.spot = none := by
    obtain ⟨cs', h1, h2⟩ := hx 0 (by omega)
    obtain ⟨_, hl, hc⟩ := World.cells?_some h1
    rw [hz] at hl hc
    have hc0 := hc 0 hz0
    rw [List.getElem?_eq_getElem (by omega)] at hc0
    have := (cell_there hc0).2
    simpa [Addr.add] using this
  obtain ⟨b, s, sp⟩ := a
  subst hsp
  have key : ∀ n, n ≤ len → ∃ (l : List α) (vs : List Value), l.length = n ∧ VRs (There w) w [] (l.map f).flatten vs ∧ (∀ a ∈ l, (f a).length = z) ∧ vs.length = n * z ∧ Held (There w) w b s vs ∧ ∀ a ∈ l, Q a := by
    intro n
    induction n with
    | zero => exact fun _ => ⟨[], [], rfl, .nil, fun a h => by simp at h, by simp, fun j v h => by simp at h, fun a h => by simp at h⟩
    | succ n ih =>
      intro hn
      obtain ⟨l, vs, h1, h2, h3, h4, h5, h6⟩ := ih (by omega)
      obtain ⟨cs', h7, h8⟩ := hx n (by omega)
      obtain ⟨_, hl, hc⟩ := World.cells?_some h7
      rw [hz] at hl hc
      obtain ⟨x, h9, h10⟩ := hel _ _ _ h8 (hW n (by omega))
      refine ⟨l ++ [x], vs ++ cs', by simp [h1], ?_, ?_, ?_, ?_, ?_⟩
      · rw [List.map_append, List.flatten_append]
        simpa using h2.append h9
      · intro a ha
        rcases List.mem_append.1 ha with ha | ha
        · exact h3 a ha
        · simp at ha
          subst ha
          rw [h9.length, hl]
      · rw [List.length_append, h4, hl, Nat.succ_mul]
      · intro j v hj
        rw [List.getElem?_append] at hj
        split at hj
        · exact h5 j v hj
        · rename_i hlt
          have hi : j - vs.length < z := by rw [← hl]; exact (List.getElem?_eq_some_iff.1 hj).1
          have := hc (j - vs.length) hi
          rw [hj] at this
          have hadd : (((⟨b, s, none⟩ : Addr).add (n * z)).add (j - vs.length)) = ⟨b, s + j, none⟩ := by
            have : n * z + (j - vs.length) = j := by omega
            unfold Addr.add
            split <;> split <;> simp_all <;> omega
          rw [hadd] at this
          exact ⟨(cell_there this).1, this⟩
      · intro a ha
        rcases List.mem_append.1 ha with ha | ha
        · exact h6 a ha
        · simp at ha
          subst ha
          exact h10
  obtain ⟨l, vs, h1, h2, h3, h4, h5, h6⟩ := key len (Nat.le_refl _)
  exact ⟨l, _, rfl, .fz h2 (z := z) (fun e he => by obtain ⟨a, ha, rfl⟩ := List.mem_map.1 he; exact h3 a ha) h5 (by simp [h1]) hlc (fun h => by cases h) (fun o h => by cases h), by rw [h1]; exact hlen, h6⟩

end
end Go.Ev
end

/- What a reading of the arguments says, in this program; the variable that is laid; what the evaluator says of a row. -/
section
namespace Go.Ev
open Go Go.Proofs Go.RowKit Go.ChangeShapes Go.WideShapes
set_option linter.unusedSimpArgs false
set_option linter.unusedVariables false
set_option maxRecDepth 100000

section
variable {U : Type} {enc : TypeId × Value → U} {w : World}
theorem rd_ints {fuel : Nat} {cs : List Value} {x : DataW U × List MemPlace} (h : Rd enc Tryd.prog w fuel 23 cs x) (hw : Wt Tryd.prog 23 x.1) :
    ∃ (l : List Int) (v : Value), cs = [v] ∧ VR (There w) w [] (.fz (ints l) .no) v ∧ l.length < 2 ^ 62 := by
  obtain ⟨l, v, h1, h2, h3, _⟩ := rd_slice (α := Int) (f := fun n => [.int .i64 n]) (Q := fun _ => True) (z := 1) Tryd.underlying23 (by kernel_rfl) (by omega) (of_decide_eq_true (by kernel_rfl)) (fun fuel cs x h _ => by
    obtain ⟨n, rfl⟩ := rd_int Tryd.underlying3 h
    exact ⟨n, .cons .int .nil, trivial⟩) h hw
  exact ⟨l, v, h1, h2, h3⟩
theorem rd_strs {fuel : Nat} {cs : List Value} {x : DataW U × List MemPlace} (h : Rd enc Tryd.prog w fuel 42 cs x) (hw : Wt Tryd.prog 42 x.1) :
    ∃ (l : List Str) (v : Value), cs = [v] ∧ VR (There w) w [] (.fz (strs l) .no) v ∧ l.length < 2 ^ 62 ∧ ∀ s ∈ l, s.length < 2 ^ 62 := by
  exact rd_slice (α := Str) (f := fun s => [.str s]) (Q := fun s => s.length < 2 ^ 62) (z := 1) Tryd.underlying42 (by kernel_rfl) (by omega) (of_decide_eq_true (by kernel_rfl)) (fun fuel cs x h hw => by
    obtain ⟨s, v, rfl, h1, h2⟩ := rd_str Tryd.underlying9 h hw
    exact ⟨s, .cons h1 .nil, h2⟩) h hw
/-- What a node's parts are bounded by. -/
def NodeLt (n : GN) : Prop := n.name.length < 2 ^ 62 ∧ n.l.length < 2 ^ 62 ∧ n.keys.length < 2 ^ 62 ∧ ∀ s ∈ n.keys, s.length < 2 ^ 62
theorem one_of_len {l : List Value} {i : Nat} (h : i < l.length) : ∃ v, (l.drop i).take 1 = [v] ∧ l[i]? = some v := by
  refine ⟨l[i], ?_, List.getElem?_eq_getElem h⟩
  rw [List.drop_eq_getElem_cons h]
  rfl
theorem rd_node {fuel : Nat} {cs : List Value} {x : DataW U × List MemPlace} (h : Rd enc Tryd.prog w fuel 44 cs x) (hw : Wt Tryd.prog 44 x.1) :
    ∃ n : GN, VRs (There w) w [] n.enc cs ∧ NodeLt n := by
  obtain ⟨xs, m, rfl, rfl, hl, hxl, hf⟩ := DataW.trod_struct Tryd.underlying44 h
  have hc : Tryd.prog.cellsOf 44 = 5 := by kernel_rfl
  have c1 : Tryd.prog.cellsOf 3 = 1 := by kernel_rfl
  have c2 : Tryd.prog.cellsOf 9 = 1 := by kernel_rfl
  have c3 : Tryd.prog.cellsOf 42 = 1 := by kernel_rfl
  have c4 : Tryd.prog.cellsOf 23 = 1 := by kernel_rfl
  rw [hc] at hl
  simp only [List.size_toArray, List.length_cons, List.length_nil] at hxl
  have hW : ∀ (i : Nat) (t : TypeId) (x : DataW U × List MemPlace), [3, 3, 9, 42, 23][i]? = some t → xs[i]? = some x → Wt Tryd.prog t x.1 := fun i t x h1 h2 n hn => hw n (by
    simp only [DataW.weights, Tryd.underlying44]
    exact weightsEach_get h1 (by rw [List.getElem?_map, h2]; rfl) n hn)
  match xs, hxl with
  | [x0, x1, x2, x3, x4], _ =>
    match cs, hl with
    | [v0, v1, v2, v3, v4], _ =>
      have f0 : DataW.trod enc Tryd.prog w 0 (fun _ => true) true m 3 (([v0, v1, v2, v3, v4].drop 0).take (Tryd.prog.cellsOf 3)) = some x0 := hf 0 _ rfl
      rw [c1] at f0
      have f0 : Rd enc Tryd.prog w m 3 [v0] x0 := f0
      have f1 : DataW.trod enc Tryd.prog w 0 (fun _ => true) true m 3 (([v0, v1, v2, v3, v4].drop 1).take (Tryd.prog.cellsOf 3)) = some x1 := hf 1 _ rfl
      rw [c1] at f1
      have f1 : Rd enc Tryd.prog w m 3 [v1] x1 := f1
      have f2 : DataW.trod enc Tryd.prog w 0 (fun _ => true) true m 9 (([v0, v1, v2, v3, v4].drop 2).take (Tryd.prog.cellsOf 9)) = some x2 := hf 2 _ rfl
      rw [c2] at f2
      have f2 : Rd enc Tryd.prog w m 9 [v2] x2 := f2
      have f3 : DataW.trod enc Tryd.prog w 0 (fun _ => true) true m 42 (([v0, v1, v2, v3, v4].drop 3).take (Tryd.prog.cellsOf 42)) = some x3 := hf 3 _ rfl
      rw [c3] at f3
      have f3 : Rd enc Tryd.prog w m 42 [v3] x3 := f3
      have f4 : DataW.trod enc Tryd.prog w 0 (fun _ => true) true m 23 (([v0, v1, v2, v3, v4].drop 4).take (Tryd.prog.cellsOf 23)) = some x4 := hf 4 _ rfl
      rw [c4] at f4
      have f4 : Rd enc Tryd.prog w m 23 [v4] x4 := f4
      obtain ⟨k, h0⟩ := rd_int Tryd.underlying3 f0
      obtain ⟨n, h1⟩ := rd_int Tryd.underlying3 f1
      obtain ⟨s, u2, h2, r2, b2⟩ := rd_str Tryd.underlying9 f2 (hW 2 _ x2 rfl rfl)
      obtain ⟨ks, u3, h3, r3, b3, b3'⟩ := rd_strs f3 (hW 3 _ x3 rfl rfl)
      obtain ⟨l, u4, h4, r4, b4⟩ := rd_ints f4 (hW 4 _ x4 rfl rfl)
      simp only [List.cons.injEq, and_true] at h0 h1 h2 h3 h4
      subst h0; subst h1; subst h2; subst h3; subst h4
      exact ⟨⟨k, n, s, ks, l⟩, .cons .int (.cons .int (.cons r2 (.cons r3 (.cons r4 .nil)))), b2, b4, b3, b3'⟩
theorem rd_nodes {fuel : Nat} {cs : List Value} {x : DataW U × List MemPlace} (h : Rd enc Tryd.prog w fuel 22 cs x) (hw : Wt Tryd.prog 22 x.1) :
    ∃ (g : List GN) (v : Value), cs = [v] ∧ VR (There w) w [] (.fz (nodes g) .no) v ∧ g.length < 2 ^ 62 ∧ ∀ n ∈ g, NodeLt n :=
  rd_slice (α := GN) (f := GN.enc) (Q := NodeLt) (z := 5) Tryd.underlying22 (by kernel_rfl) (by omega) (of_decide_eq_true (by kernel_rfl)) (fun fuel cs x h hw => rd_node h hw) h hw
/-- A graph that is handed in. -/
theorem graph_in {v : Value} {d : DataW U} {ps : List MemPlace} {r : Reach} {b : Nat} (hv : Value.okWide Tryd.prog w r b 22 v) (h : DataW.Trod enc Tryd.prog w 0 (fun _ => true) true 22 v d ps) (hw : Wt Tryd.prog 22 d) :
    ∃ g : List GN, VR (There w) w [] (.fz (nodes g) .no) v ∧ g.length < 2 ^ 62 ∧ ∀ n ∈ g, NodeLt n := by
  obtain ⟨a, len, cap, rfl⟩ := okWide_slice Tryd.underlying22 hv
  obtain ⟨fuel, hf⟩ := h
  obtain ⟨g, u, h1, h2, h3⟩ := rd_nodes hf hw
  have : u = .slice a len cap := by simpa [Value.cells] using h1.symm
  subst this
  exact ⟨g, h2, h3⟩

/-- The variable that is laid: what the evaluator knows of it. -/
theorem laid_in (h : laidMetH Tryd.prog [("armillary/lex.keys", YtkenfmphlggmcaaDoor.Rows.laid_armillary_lex_keys)] w) : GOk theG (There w) w [] := by
  rw [MakeChecks.laidMetH_plain _ _ _ (by kernel_rfl)] at h
  obtain ⟨ps, ⟨g0, t0, cs0, f0, p0, q0, hg0, ht0, hv0, hd0, _, _⟩, _, _⟩ := h
  obtain rfl := Option.some.inj ((show Tryd.prog.globalNamed "armillary/lex.keys" = some 0 by kernel_rfl).symm.trans hg0)
  obtain rfl := Option.some.inj ((show (Tryd.prog.globals[0]?).map (·.type) = some 116 by kernel_rfl).symm.trans ht0)
  obtain ⟨xs, m, rfl, hx, hl, hxl, hel⟩ := DataW.trod_array Tryd.underlying116 hd0
  have c1 : Tryd.prog.cellsOf 9 = 1 := by kernel_rfl
  have c2 : Tryd.prog.cellsOf 116 = 18 := by kernel_rfl
  simp only [Prod.mk.injEq] at hx
  intro g e he
  unfold theG at he
  split at he
  · rename_i hg
    subst hg
    injection he with he
    subst he
    refine .fp (vs := cs0.toList) ?_ fun j v hj => ?_
    · refine VRs.mk (by rw [hl, c2]; rfl) fun i e v h1 h2 => ?_
      have hi : i < 18 := (List.getElem?_eq_some_iff.1 h1).1
      have h3 := hel i hi
      rw [c1, Nat.mul_one] at h3
      have hil : i < cs0.toList.length := (List.getElem?_eq_some_iff.1 h2).1
      obtain ⟨u, h4, h5⟩ := one_of_len hil
      rw [h4] at h3
      obtain rfl := Option.some.inj (h5.symm.trans h2)
      have h6 : xs[i]? = some xs[i] := List.getElem?_eq_getElem (by omega)
      rw [h6] at h3
      obtain ⟨b, h7, h8, _⟩ := DataW.trod_string Tryd.underlying9 h3
      simp only [List.cons.injEq, and_true] at h7
      subst h7
      have h9 : (xs.map (·.1))[i]? = some (.lit (.string b.data.toList)) := by
        rw [List.getElem?_map, h6, h8]
        rfl
      have h10 : xs.map (·.1) = _ := (DataW.agg.inj hx.1).symm
      rw [h10] at h9
      have : e = .str b.data.toList := by
        have key : ∀ (l : List Str) (s : Str) (e : EV), (l.map EV.str)[i]? = some e → (l.map fun s => (DataW.lit (.string s) : DataW Unit))[i]? = some (.lit (.string s)) → e = .str s := by
          intro l s e h1 h2
          simp only [List.getElem?_map, Option.map_eq_some_iff] at h1 h2
          obtain ⟨a, ha, rfl⟩ := h1
          obtain ⟨c, hc, h⟩ := h2
          rw [ha] at hc
          cases hc
          simp at h
          rw [h]
        exact key [[109, 111, 100, 117, 108, 101], [105, 109, 112, 111, 114, 116], [116, 121, 112, 101], [102, 110], [108, 101, 116], [105, 110], [105, 102], [116, 104, 101, 110], [101, 108, 115, 101], [105, 115], [97, 115], [116, 114, 117, 101], [102, 97, 108, 115, 101], [110, 117, 108, 108], [100, 121, 110], [98, 111, 111, 108], [105, 110, 116], [114, 101, 99]] _ _ h1 h9
      subst this
      exact .str rfl
    · have := World.var?_cell hg0 hv0 j
      rw [← Array.getElem?_toList, hj] at this
      rw [Nat.zero_add]
      exact ⟨(cell_there this).1, this⟩
  · cases he
end
end Go.Ev
end

/- From what the evaluator says of a call to what a row asks. -/
section
namespace Go.Ev
open Go Go.Proofs Go.RowKit Go.ChangeShapes Go.WideShapes
set_option linter.unusedSimpArgs false
set_option linter.unusedVariables false
set_option maxRecDepth 100000

section
variable {U : Type} {enc : TypeId × Value → U} {W : World}
theorem laidOut : laidOutB Tryd.prog = true := by kernel_rfl
theorem mixes : Tryd.prog.follows .mixedOrders = true := by kernel_rfl
theorem own : ownKnob Tryd.prog.godebug = none := by kernel_rfl

/-- Arguments read behind the call as they did. -/
theorem trodAll_below {W' : World} (hb : Below W.heap.size W W') : ∀ {ts : List TypeId} {vs : List Value} {ds : List (DataW U)} {ps : List MemPlace}, (∀ t ∈ ts, Tryd.prog.readableRec t = true ∧ t < Tryd.prog.types.size) →
    DataW.TrodAll enc Tryd.prog W 0 (fun _ => true) true ts vs ds ps → (∀ p ∈ ps, p.block < W.heap.size) → DataW.TrodAll enc Tryd.prog W' 0 (fun b => decide (b < W.heap.size)) true ts vs ds ps
  | [], [], [], _, _, h, _ => h
  | t :: ts, v :: vs, d :: ds, ps, ht, ⟨p, q, h1, h2, e⟩, hl =>
    ⟨p, q, Below.trod laidOut (ht t (List.mem_cons_self ..)).1 (ht t (List.mem_cons_self ..)).2 h1 hb (fun x hx => hl x (by rw [e]; exact List.mem_append_left _ hx)),
      trodAll_below hb (fun u hu => ht u (List.mem_cons_of_mem _ hu)) h2 (fun x hx => hl x (by rw [e]; exact List.mem_append_right _ hx)), e⟩
  | [], [], _ :: _, _, _, h, _ => h.elim
  | [], _ :: _, _, _, _, h, _ => h.elim
  | _ :: _, [], _, _, _, h, _ => h.elim
  | _ :: _, _ :: _, [], _, _, h, _ => h.elim

theorem calls_of_yields {P : Program} {f : Nat} {vals : Array Value} {w : World} {R : Ending → World → Prop} (he : (callFunc f vals).run P w = .ok (.enter f vals) w) (h : Yields P f vals w R) : Calls P f vals w R := by
  rcases h with h | ⟨val, w', h, _⟩
  · exact h.2
  · rw [he] at h
    cases h

/-- What is asked of a row whose call gives true. -/
theorem row_says {f : Nat} {fn : Func} {s : ChangeSpec} {apart fresh handsOn : Bool} {args : Array Value} {ds gs : List (DataW U)} {before : List MemPlace} {es : List EV}
    (he : (callFunc f args).run Tryd.prog W = .ok (.enter f args) W) (hr : fn.resultTypes = #[4]) (hrd : ∀ t ∈ fn.params.toList, Tryd.prog.readableRec t = true ∧ t < Tryd.prog.types.size) (hvars : s.vars = [])
    (hs : s.fn U ds = { results := [.lit (.bool true)], args := ds })
    (hW : DataW.Whole enc Tryd.prog fn.params.toList s.vars apart W args.toList ds gs before) (hg : GOk theG (There W) W []) (hv : VRs (There W) W [] es args.toList)
    (hc : CallR ep dQ f es [] (.bool true) [] []) :
    Calls Tryd.prog f args W fun e W' => ∃ v, e = .returned v ∧ s.post enc Tryd.prog fn apart fresh handsOn false W args v W' := by
  have hy := CallR.says mixes tells hc (there_rel W) hg hv
  rw [Array.toArray_toList] at hy
  refine (calls_of_yields he hy).mono fun e W' ⟨val, Fr', β', h1, h2, h3⟩ => ?_
  subst h1
  cases h3
  refine ⟨_, rfl, ?_⟩
  have hb : Below W.heap.size W W' := ⟨h2.stp.os, h2.stp.tape, h2.stp.output, h2.stp.size, fun k hk => h2.stp.block k hk (fun ⟨o, s, ho, _⟩ => by simp at ho)⟩
  have hW' := hW
  obtain ⟨p, q, hA, hV, rfl, _, _⟩ := hW
  have hV' := hV
  rw [hvars] at hV'
  obtain ⟨rfl, rfl⟩ := trodVars_none hV'
  refine ⟨ds, [], p ++ [], [], p, [], hW', ?_, ?_, ?_, hb.frame _, fun h => by cases h⟩
  · rw [List.append_nil, hs, hr]
    exact trodAll_mk1 (shut_bool Tryd.underlying4 true)
  · rw [List.append_nil, hs]
    exact trodAll_below hb hrd hA (fun x hx => by simpa using hW'.lt x (List.mem_append_left _ hx))
  · rw [List.append_nil, hs, hvars]
    exact rfl

theorem wt_of {ts us : List TypeId} {ds gs : List (DataW U)} (h : (DataW.weightsEach Tryd.prog (ts ++ us) (ds ++ gs)).all (· ≤ reachBytes) = true) {i : Nat} {t : TypeId} {d : DataW U} (ht : ts[i]? = some t) (hd : ds[i]? = some d) : Wt Tryd.prog t d := fun n hn => by
  have h1 : (ts ++ us)[i]? = some t := by rw [List.getElem?_append_left (List.getElem?_eq_some_iff.1 ht).1]; exact ht
  have h2 : (ds ++ gs)[i]? = some d := by rw [List.getElem?_append_left (List.getElem?_eq_some_iff.1 hd).1]; exact hd
  simpa using List.all_eq_true.1 h n (weightsEach_get h1 h2 n hn)
end
/-- The door's own heap. -/
theorem door_met (os : Os) (args : Array Value) : laidMetH Tryd.prog [("armillary/lex.keys", YtkenfmphlggmcaaDoor.Rows.laid_armillary_lex_keys)] ((World.doorLaid Tryd.prog 14 os).forCall (fun _ _ => 0) ⟨#[], args, []⟩).memory :=
  laidMetH_of_parts3 (fuel := 8) (laidMet_of_run' 8 (by kernel_rfl) (by kernel_rfl)) (by kernel_rfl) (by kernel_rfl)
end Go.Ev
end

/- JoinByKey: plain facts. -/
section
namespace Go.Ev
open Go Go.Proofs
set_option linter.unusedSimpArgs false
set_option linter.unusedVariables false
set_option maxRecDepth 100000
set_option maxHeartbeats 400000

/-- Something is left. -/
def nz (b : BB) : Prop := b.1 = true ∨ b.2 = true
theorem nz_orL {a b : BB} (h : nz a) : nz (orB a b) := by
  rcases h with h | h
  · exact .inl (by simp [orB, h])
  · exact .inr (by simp [orB, h])
theorem nz_orR {a b : BB} (h : nz b) : nz (orB a b) := by
  rcases h with h | h
  · exact .inl (by simp [orB, h])
  · exact .inr (by simp [orB, h])
theorem nz_fold {one : DM → Int → BB × DM} : ∀ {l : List Int} {s : BB × DM}, nz s.1 → nz (l.foldl (fun s m => (orB s.1 (one s.2 m).1, (one s.2 m).2)) s).1
  | [], _, h => h
  | m :: l, s, h => by
    rw [List.foldl_cons]
    exact nz_fold (nz_orL h)
theorem members_ne {g : List GN} (hc : checkG g = 0) {n : Int} (hn : inG g n) : members g n ≠ [] := by
  unfold members
  rw [if_neg (by have := hn.1; have := hn.2; omega)]
  split
  · rename_i hk
    have hok := (check_ok0 hc).2 _ (at0_mem (show ¬ (n < 0 ∨ (g.length : Int) ≤ n) by have := hn.1; have := hn.2; omega))
    simp [nodeOk, hk] at hok
    intro e
    rw [e] at hok
    simp at hok
  · simp
theorem in_count {g : List GN} {l : List Int} (hn : l.Nodup) (hl : ∀ x ∈ l, inG g x) : l.length ≤ g.length := by
  have h := List.Nodup.length_le_of_subset hn (l₂ := (List.range g.length).map fun i : Nat => (i : Int)) (fun x hx => by
    obtain ⟨h1, h2⟩ := hl x hx
    exact List.mem_map.2 ⟨x.toNat, List.mem_range.2 (by omega), by omega⟩)
  simpa using h
theorem oneF_nz {g : List GN} (hG : Good g) (hc : checkG g = 0) {leaf : Int → BB} (hleaf : ∀ m, inG g m → nz (leaf m)) : ∀ (k : Nat) (op : List Int), op.Nodup → (∀ x ∈ op, inG g x) → g.length ≤ op.length + k → ∀ m, inG g m → nz (oneF g leaf (deepF g leaf k) op [] m).1
  | k, op, hnd, hop, hlen, m, hm => by
    unfold oneF
    have hif : (if op = [] then [] else ([] : DM)) = [] := by split <;> rfl
    rw [hif]
    split
    · exact .inl rfl
    split
    · rename_i hk9
      split
      · exact .inl rfl
      rename_i hnin
      rw [if_neg (by simp [mget])]
      dsimp only
      have hnin' : m ∉ op := fun e => hnin (List.contains_iff_mem.2 e)
      have hnd' : (op ++ [m]).Nodup := by
        rw [List.nodup_append]
        exact ⟨hnd, by simp, fun a ha b hb e => by rw [List.mem_singleton] at hb; rw [e, hb] at ha; exact hnin' ha⟩
      have hop' : ∀ x ∈ op ++ [m], inG g x := fun x hx => by
        rcases List.mem_append.1 hx with hx | hx
        · exact hop x hx
        · rw [List.mem_singleton] at hx; rw [hx]; exact hm
      have hcnt := in_count hnd' hop'
      simp at hcnt
      cases k with
      | zero => omega
      | succ k =>
        obtain ⟨b, hb⟩ := hG.var m hm hk9
        have hbin : inG g b := by
          have := node_places ((check_ok0 hc).2 _ (at0_mem (show ¬ (m < 0 ∨ (g.length : Int) ≤ m) by have := hm.1; have := hm.2; omega))) b (by rw [hb]; simp)
          exact ⟨this.1, this.2⟩
        show nz (lookF g leaf k (op ++ [m]) [] ((at0 g m).l.headD 0)).1
        rw [lookF_eq, hb]
        show nz (foldF _ (members g b) []).1
        have hne := members_ne hc hbin
        unfold foldF
        cases hms : members g b with
        | nil => exact absurd hms hne
        | cons y ys =>
          rw [List.foldl_cons]
          refine nz_fold (nz_orR ?_)
          exact oneF_nz hG hc hleaf k (op ++ [m]) hnd' hop' (by simp; omega) y (hG.mem b y (by rw [hms]; simp))
    · exact hleaf m hm
  termination_by k => k
theorem narV_nz {g : List GN} (hG : Good g) (hc : checkG g = 0) {leaf : Int → BB} (hleaf : ∀ m, inG g m → nz (leaf m)) {m : Int} (hm : inG g m) : nz (narV g leaf m) :=
  oneF_nz hG hc hleaf g.length [] (by simp) (fun x hx => by cases hx) (by simp) m hm
theorem plainF_nz (g : List GN) (sh : GN) (m : Int) : nz (plainF g sh m) := by
  unfold plainF nz
  by_cases h : (at0 g m).kind = sh.kind ∧ (at0 g m).name = sh.name <;> simp [h]
theorem lookV_nz {g : List GN} (hG : Good g) (hc : checkG g = 0) (sh : GN) {n : Int} (hn : inG g n) : nz (lookV g (plainF g sh) n) := by
  rw [lookV_eq]
  have hne := members_ne hc hn
  cases hms : members g n with
  | nil => exact absurd hms hne
  | cons y ys =>
    rcases narV_nz hG hc (leaf := plainF g sh) (fun m _ => plainF_nz g sh m) (hG.mem n y (by rw [hms]; simp)) with h | h
    · exact .inl (by simp [h])
    · exact .inr (by simp [h])
theorem take_len {α : Type} {p : α → Bool} : ∀ {l : List α} {i : Nat} (hi : i < l.length), (∀ (j : Nat) (hj : j < i), p (l[j]'(by omega)) = true) → p l[i] = false → (l.takeWhile p).length = i
  | a :: l, 0, _, _, h2 => by
    rw [List.takeWhile_cons, if_neg (by simpa using h2)]
    rfl
  | a :: l, i + 1, hi, h1, h2 => by
    have h0 := h1 0 (by omega)
    rw [List.takeWhile_cons, if_pos (by simpa using h0), List.length_cons, take_len (i := i) (by simpa using hi) (fun j hj => by simpa using h1 (j + 1) (by omega)) (by simpa using h2)]
/-- Where a key lies. -/
theorem bsN_at {l : List Str} (hs : risen l = true) {i : Nat} (hi : i < l.length) : bsN l l[i] = i :=
  take_len hi (fun j hj => risen_lt hs i j hi hj) (less_self _)
/-- A type of one member. -/
theorem nar_one {g : List GN} {key : Str} {sh : GN} {one : Int → BB} {n : Int} (hk : key ≠ []) (hm : members g n = [n]) :
    narY g key sh one n = (if (one n).1 = true then n else -1) ∧ narN g key sh one n = (if (one n).2 = true then n else -1) := by
  have hg : narG g key sh one n = (g, if (one n).1 = true then [n] else [], if (one n).2 = true then [n] else []) := by
    unfold narG foldN
    rw [hm, List.foldl_cons, List.foldl_nil]
    unfold stepN
    by_cases h1 : (one n).1 = true
    · simp [h1, hk]
    · simp [h1]
  have hl : ∀ b : Bool, leftG g n (if b = true then [n] else []) = g ∧ leftN g n (if b = true then [n] else []) = if b = true then n else -1 := by
    intro b
    unfold leftG leftN
    cases b <;> simp [hm]
  unfold narY narN
  rw [hg]
  dsimp only
  rw [(hl _).1]
  exact ⟨(hl _).2, (hl _).2⟩
end Go.Ev
end
