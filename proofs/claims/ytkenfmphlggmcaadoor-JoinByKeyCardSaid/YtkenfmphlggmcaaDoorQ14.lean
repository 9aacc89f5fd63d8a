/- What narrowing a type computes: variables. -/
import Derived.Test.YtkenfmphlggmcaaDoorQ13

section
namespace Go.Ev
open Go Go.Proofs
set_option linter.unusedSimpArgs false
set_option linter.unusedVariables false
set_option maxRecDepth 100000
set_option maxHeartbeats 200000

theorem look_don {H : Heap} {q : Nat} {d : DM} {x : Int} (h : H[q]? = some (.map (encM ekI EV.bool d))) : lookupE ep.T H 72 (.map q) (.int .i64 x) false = some (.bool ((mget d x).getD false)) := by
  have := look_M (H := H) (m := d) (x := x) (ev := EV.bool) (mm := .map q) (ok := false) eq_num ty_72 ty_4 (key_num x) (by simp only [entriesE, h]) rfl
  simp only [ekI] at this
  rw [this]
  cases mget d x <;> rfl
theorem upd_don {H : Heap} {q : Nat} {d : DM} {x : Int} {b : Bool} (h : H[q]? = some (.map (encM ekI EV.bool d))) : updateE ep.T H 72 (.map q) (.int .i64 x) (.bool b) = some (H.set q (.map (encM ekI EV.bool (mput d x b))), [q]) := by
  have := upd_M (H := H) (o := q) (m := d) (x := x) (v := b) (ev := EV.bool) eq_num ty_72 (key_num x) h
  simpa only [ekI] using this
theorem var1_ok (g : List GN) (kg : Cap) (key : Str) (sh : GN) (tv : EV) (o a b q : Nat) (d : DM) (n : Int) (H : Heap) (h1 : H[a]? = some (.cells [.ptr o 0])) (h2 : H[b]? = some (.cells [.int .i64 n])) (h3 : H[o]? = some (.cells (nwCells g kg key sh tv (.map q)))) (h4 : H[q]? = some (.map (encM ekI EV.bool d))) :
    CallW ep dQ 98 [.ptr a 0, .ptr b 0] H fun _ H' W => H' = H.set q (.map (encM ekI EV.bool (mput d n true))) ∧ W = [q] := by
  have hl1 := (List.getElem?_eq_some_iff.1 h1).1
  have hl2 := (List.getElem?_eq_some_iff.1 h2).1
  have hl3 := (List.getElem?_eq_some_iff.1 h3).1
  have hl4 := (List.getElem?_eq_some_iff.1 h4).1
  have n1 : ¬ a = q := fun e => by rw [e, h4] at h1; injection h1 with h1; cases h1
  have n2 : ¬ b = q := fun e => by rw [e, h4] at h2; injection h2 with h2; cases h2
  have n3 : ¬ o = q := fun e => by rw [e, h4] at h3; injection h3 with h3; cases h3
  unfold nwCells at h3
  have hf : ∀ G v, finishE 0 H G [q] v = (v, G, [q]) := fun G v => finish0_w (by simp [hl4])
  refine CallW.body rfl fn_98 (by unfold Tryd.f98; rfl) (by rfl) (by unfold Tryd.f98; simp) ?_
  unfold Tryd.f98
  simp (config := { contextual := true, maxSteps := 1000000 }) [-Int.not_le, -Int.not_lt, -Nat.not_le, -Nat.not_lt]
  refine ⟨by kernel_rfl, draw2R_of [.p true, .p true, .p true, .p true, .p true, .a []] [] (by kernel_rfl) (by kernel_rfl) [q] ?_⟩
  simp (config := { contextual := true, maxSteps := 1000000 }) [-Int.not_le, -Int.not_lt, -Nat.not_le, -Nat.not_lt, ↓h1, ↓h2, ↓h3, n1, n2, n3, hl1, hl2, hl3, upd_don h4, hf]
  exact deadAt_map h4
theorem thenDM_normal {E : EP} {D : EP → CallF → DrawF} {vm : Bool} {N : Nat} {b : Code} {K : Option (Nat × List EV) → EX → Mm → Heap → List Nat → Prop} {M : Mm} {H : Heap} {W : List Nat} : thenDM E D vm N b K .normal M H W = CodeDM E D vm N b M H fun d x M2 H2 W2 => K d x M2 H2 (W ++ W2) := rfl
theorem thenDM_ret {E : EP} {D : EP → CallF → DrawF} {vm : Bool} {N : Nat} {b : Code} {K : Option (Nat × List EV) → EX → Mm → Heap → List Nat → Prop} {M : Mm} {H : Heap} {W : List Nat} : thenDM E D vm N b K .ret M H W = K none .ret M H W := rfl
theorem endDM_none {E : EP} {D : EP → CallF → DrawF} {f : Nat} {fn : Func} {H : Heap} {Q : EV → Heap → List Nat → Prop} : endDM E D f fn H Q none = endM E f fn H Q := rfl
theorem NQ.fin {g kg key sh tb o t op dv H d d1 b G W} (hp : NP g kg key sh tb o t op dv d H) (hg : Grw H G W) (hW : ∀ x ∈ W, x < H.length → Wok op o dv x) (hnp : ∃ dv', (op ≠ [] → dv' = dv) ∧ NP g kg key sh tb o t op dv' d1 G) :
    NQ g kg key sh o t op dv H (b, d1) (finishE 0 H G W (.agg [.bool b.1, .bool b.2])).1 (finishE 0 H G W (.agg [.bool b.1, .bool b.2])).2.1 (finishE 0 H G W (.agg [.bool b.1, .bool b.2])).2.2 := by
  obtain ⟨H', W', h1, h2, h3, h4⟩ := fin0 (H := H) (G := G) (W := W) (v := .agg [.bool b.1, .bool b.2]) rfl hg
  rw [h1]
  have hlt : o < H.length := (List.getElem?_eq_some_iff.1 hp.obj).1
  obtain ⟨dv', h5, h6⟩ := hnp
  refine ⟨rfl, h2, fun x hx => hW x (h3 x hx).1 (h3 x hx).2, dv', by rw [h4 o hlt]; exact h6.obj, h5, fun hop => ?_⟩
  obtain ⟨q1, k1, k2, k3, k4⟩ := h6.don hop
  obtain ⟨q2, j1, j2, j3, j4⟩ := hp.don hop
  have e := h5 hop
  rw [k1, j1] at e
  injection e with e
  subst e
  have hq : q1 < H.length := (List.getElem?_eq_some_iff.1 j4).1
  exact ⟨q1, k1, k2, k3, by rw [h4 q1 hq]; exact k4⟩
theorem CodeDM.weaken {E : EP} {D : EP → CallF → DrawF} {vm : Bool} {N : Nat} {c : Code} {M M' : Mm} {H : Heap} {K : Option (Nat × List EV) → EX → Mm → Heap → List Nat → Prop} (hs : Fits M' M) (h : CodeDM E D vm N c M' H K) : CodeDM E D vm N c M H K := fun env hl hh => h env hl (hh.sub hs)
theorem inE_iff {Wl : List Nat} : ∀ {W : List Nat}, inE Wl W ↔ ∀ x ∈ W, x ∈ Wl
  | [] => by simp [inE]
  | o :: r => by simp [inE, inE_iff (W := r)]
def tailOf : Option Code → Code
  | some (.seq _ (.seq _ (.seq _ (.seq _ c)))) => c
  | _ => .skip
theorem endDM_some {E : EP} {D : EP → CallF → DrawF} {f a : Nat} {l : List EV} {fn : Func} {H : Heap} {Q : EV → Heap → List Nat → Prop} {x : EX} {M : Mm} {H1 : Heap} {W1 : List Nat} : endDM E D f fn H Q (some (a, l)) x M H1 W1 = ((∀ id, x ≠ .exit id) ∧ E.I a l H1 = none ∧ (∃ fg cg, E.F a = some fg ∧ fg.body = some cg ∧ hasD cg = false) ∧ CallW E D a l H1 fun _ H2 W2 => endM E f fn H Q .ret M H2 (W1 ++ W2)) := rfl
theorem killW_clone {H : Heap} {α : Type} {l : List α} : ∀ x ∈ killW (cloneK H l), x = H.length := by
  unfold cloneK
  split <;> simp
theorem tail_of {g kg key sh tb} {leaf : Int → BB} {k : Nat} (hg : Fair g) (IH : NSpec g kg key sh tb 99 (lookF g leaf k) k (fun _ => True))
    {H Hx : Heap} {o t q i : Nat} {op : List Int} {ko : Cap} {dv : EV} {d d0 : DM} {x : Int} {W0 : List Nat}
    (hk : g.length ≤ op.length + (k + 1)) (hnd : op.Nodup) (hop : ∀ x ∈ op, 0 ≤ x ∧ x < (g.length : Int)) (hil : i < g.length) (hin : ¬ (i : Int) ∈ op) (hx : g[i].l = [x])
    (hp : NP g kg key sh tb o t op dv d H) (hg0 : Grw H Hx W0) (hW0 : ∀ x ∈ W0, x < H.length → Wok op o dv x) (hnp0 : NP g kg key sh tb o t (op ++ [(i : Int)]) (.map q) d0 Hx) (hcase : op ≠ [] → dv = .map q) (hcase2 : op = [] → H.length ≤ q)
    (h0 : Hx[H.length]? = some (.cells [.ptr o 0])) (h1 : Hx[H.length + 1]? = some (.cells [.int .i64 i])) (h2 : Hx[H.length + 2]? = some (.cells [.bool false, .bool false])) :
    CodeDM ep dQ true 43 (tailOf Tryd.f72.body) [(2, .fz (ints op) ko), (3, .ptr H.length 0), (4, .ptr (H.length + 1) 0), (6, .ptr (H.length + 2) 0)] Hx
      (fun d x' M2 H2 W2 => endDM ep dQ 72 Tryd.f72 H (NQ g kg key sh o t op dv H ((lookF g leaf k (op ++ [(i : Int)]) d0 x).1, mput (lookF g leaf k (op ++ [(i : Int)]) d0 x).2 i true)) d x' M2 H2 (W0 ++ W2)) := by
  have hnd2 : (op ++ [(i : Int)]).Nodup := by
    rw [List.nodup_append]
    exact ⟨hnd, by simp, fun a ha b hb => by rw [List.mem_singleton] at hb; subst hb; rintro rfl; exact hin ha⟩
  have hop2 : ∀ y ∈ op ++ [(i : Int)], 0 ≤ y ∧ y < (g.length : Int) := fun y hy => by
    rcases List.mem_append.1 hy with hy | hy
    · exact hop y hy
    · rw [List.mem_singleton] at hy; omega
  have hopl : op.length + 1 ≤ g.length := by simpa using nodup_bound hnd2 hop2
  have hgl := hg.1
  have hlt : o < H.length := (List.getElem?_eq_some_iff.1 hp.obj).1
  have ho := hnp0.obj
  unfold nwCells at ho
  have hcl := (cloneI_ok op ko Hx (by omega)).val
  have hHc : ∀ y < Hx.length, (killH (cloneH Hx op) (cloneK Hx op) ++ [EO.tip (op.length + 1)])[y]? = Hx[y]? := fun y hy => by
    unfold cloneH cloneK
    split
    · simp [List.getElem?_append_left hy]
    · rw [List.getElem?_append_left (by simp; omega), killH_get (by simp; omega), List.getElem?_append_left hy]
  have hnpc : NP g kg key sh tb o t (op ++ [(i : Int)]) (.map q) d0 (killH (cloneH Hx op) (cloneK Hx op) ++ [EO.tip (op.length + 1)]) :=
    ⟨by rw [hHc _ (List.getElem?_eq_some_iff.1 hnp0.obj).1]; exact hnp0.obj, by rw [hHc _ (List.getElem?_eq_some_iff.1 hnp0.tab).1]; exact hnp0.tab, fun e => by
      obtain ⟨q', e1, e2, e3, e4⟩ := hnp0.don e
      exact ⟨q', e1, e2, e3, by rw [hHc _ (List.getElem?_eq_some_iff.1 e4).1]; exact e4⟩⟩
  have hap := fun k' => app_int (G := cloneH Hx op) (l := op) (x := (i : Int)) (k := cloneK Hx op) (k' := k') (by omega) clone_own
  obtain ⟨v, H1, W1, hc, hq⟩ := IH _ o t (op ++ [(i : Int)]) (.tok (cloneH Hx op).length) (.map q) d0 x (by simp; omega) hnd2 hop2 trivial hnpc
  rcases hr : lookF g leaf k (op ++ [(i : Int)]) d0 x with ⟨rb, rd⟩
  rw [hr] at hq
  have hv := hq.val
  subst hv
  have hcv := hc.val
  obtain ⟨q', e1, hqo, hqt, hq3⟩ := hnp0.don (by simp)
  injection e1 with e1
  subst e1
  have hl0 := (List.getElem?_eq_some_iff.1 h0).1
  have hl1 := (List.getElem?_eq_some_iff.1 h1).1
  have hl2 := (List.getElem?_eq_some_iff.1 h2).1
  have hlo := (List.getElem?_eq_some_iff.1 ho).1
  have hlq := (List.getElem?_eq_some_iff.1 hq3).1
  have n1 : ¬ H.length = q := fun e => by rw [e, hq3] at h0; injection h0 with h0; cases h0
  have n2 : ¬ H.length + 1 = q := fun e => by rw [e, hq3] at h1; injection h1 with h1; cases h1
  have n3 : ¬ H.length + 2 = q := fun e => by rw [e, hq3] at h2; injection h2 with h2; cases h2
  have n4 : ¬ o = q := fun e => hqo e.symm
  have n5 : ¬ o = H.length + 2 := by omega
  have n6 : ¬ o = Hx.length := by omega
  have n7 : ¬ H.length = Hx.length := by omega
  have n8 : ¬ H.length + 1 = Hx.length := by omega
  have hlen1 : Hx.length < H1.length := by
    have := hq.grw.1
    simp [cloneH_eq] at this
    omega
  have hW1 : ∀ y ∈ W1, y = q := fun y hy => by
    rcases hq.wrt y hy with ⟨e, _⟩ | ⟨_, e⟩
    · simp at e
    · injection e with e; exact e.symm
  have hH1 : ∀ y < Hx.length, y ≠ q → H1[y]? = Hx[y]? := fun y hy hne => by
    rw [hq.grw.2 y (by simp [cloneH_eq]; omega) (fun e => hne (hW1 y e)), hHc y hy]
  have h21 : H1[H.length + 2]? = some (.cells [.bool false, .bool false]) := by rw [hH1 _ hl2 n3]; exact h2
  have hal : aliveE (cloneH Hx op) (killW (cloneK Hx op)) := by
    unfold cloneH cloneK
    split <;> simp [aliveE, deadAt]
  show CodeDM ep dQ true 43 (tailOf Tryd.f72.body) _ _ _
  unfold Tryd.f72
  simp only [tailOf]
  refine CodeDM.defer rfl rfl ?_
  simp only [stepW, opE, evL, evO, lk_cons]
  refine ⟨_, _, _, rfl, codeP_ok ?_⟩
  simp (config := { contextual := true, maxSteps := 1000000 }) [-Int.not_le, -Int.not_lt, -Nat.not_le, -Nat.not_lt]
  refine ⟨by kernel_rfl, draw2R_of [.p false, .p false, .p false, .p false, .p false, .p false, .p false, .p false, .p false, .p false, .p false, .p false, .c false [], .p false, .p false, .a [], .c false [], .a []] [] (by kernel_rfl) (by kernel_rfl) [Hx.length, q, H.length + 2] ?_⟩
  simp (config := { contextual := true, maxSteps := 1000000 }) [-Int.not_le, -Int.not_lt, -Nat.not_le, -Nat.not_lt, ↓h0, ↓h1, ↓h2, ↓ho, n1, n2, n3, n4, n5, n6, n7, n8, hl0, hl1, hl2, hlo, hcl, hap, hcv, hal, ↓h21, hil, hx, -inE]
  have hlen2 : (H1.set (H.length + 2) (EO.cells [EV.bool rb.1, EV.bool rb.2])).length = H1.length := by simp
  have hkp : ∀ y z, Hx[y]? = some z → y ≠ q → y ≠ H.length + 2 → (H1.set (H.length + 2) (EO.cells [EV.bool rb.1, EV.bool rb.2]))[y]? = some z := fun y z hy hne hne2 => by
    rw [List.getElem?_set, if_neg (fun e => hne2 e.symm), hH1 y (List.getElem?_eq_some_iff.1 hy).1 hne]
    exact hy
  obtain ⟨dv2, hobj2, hdv2, hdon2⟩ := hq.st
  have hdv3 := hdv2 (by simp)
  subst hdv3
  obtain ⟨q2, e2, _, _, hq4⟩ := hdon2 (by simp)
  injection e2 with e2
  subst e2
  obtain ⟨v3, H3, W3, hc3, rfl, rfl⟩ := var1_ok g kg key sh (.map t) o H.length (H.length + 1) q rd i (H1.set (H.length + 2) (EO.cells [EV.bool rb.1, EV.bool rb.2])) (hkp _ _ h0 n1 (by omega)) (hkp _ _ h1 n2 (by omega)) (by rw [List.getElem?_set, if_neg (by omega)]; exact hobj2) (by rw [List.getElem?_set, if_neg n3]; exact hq4)
  refine ⟨inE_iff.2 fun y hy => ?_, ?_⟩
  · rcases List.mem_append.1 hy with hy | hy
    · simp [killW_clone y hy]
    · rcases List.mem_append.1 hy with hy | hy
      · simp [hW1 y hy]
      · rw [List.mem_singleton] at hy
        simp [hy]
  rw [endDM_some]
  refine ⟨by simp, rfl, ⟨_, _, fn_98, by unfold Tryd.f98; rfl, by rfl⟩, v3, _, _, hc3, ?_⟩
  have hfin : ((H1.set (H.length + 2) (EO.cells [EV.bool rb.1, EV.bool rb.2])).set q (.map (encM ekI EV.bool (mput rd i true))))[H.length + 2]? = some (EO.cells [EV.bool rb.1, EV.bool rb.2]) := by
    rw [List.getElem?_set, if_neg (fun e => n3 e.symm), List.getElem?_set, if_pos rfl, if_pos (by omega)]
  simp (config := { contextual := true, maxSteps := 1000000 }) [-Int.not_le, -Int.not_lt, -Nat.not_le, -Nat.not_lt, ↓hfin]
  have hlx : H.length ≤ Hx.length := hg0.1
  refine NQ.fin hp ⟨by simp; omega, fun y hy hn => ?_⟩ (fun y hy hyl => ?_) ⟨.map q, fun e => (hcase e).symm, ?_, ?_, fun _ => ⟨q, rfl, hqo, hqt, ?_⟩⟩
  · have hyq : y ≠ q := fun e => hn (by simp [e])
    rw [List.getElem?_set, if_neg (fun e => hyq e.symm), List.getElem?_set, if_neg (by omega), hH1 y (by omega) hyq]
    exact hg0.2 y hy (fun e => hn (List.mem_append_left _ e))
  · have hwq : y = q → Wok op o dv y := fun e => by
      subst e
      by_cases hop0 : op = []
      · have := hcase2 hop0
        omega
      · exact .inr ⟨hop0, hcase hop0⟩
    rcases List.mem_append.1 hy with hy | hy
    · exact hW0 y hy hyl
    rcases List.mem_append.1 hy with hy | hy
    · have := killW_clone y hy
      omega
    rcases List.mem_append.1 hy with hy | hy
    · exact hwq (hW1 y hy)
    · simp at hy
      rcases hy with hy | hy
      · omega
      · exact hwq hy
  · rw [List.getElem?_set, if_neg hqo, List.getElem?_set, if_neg (by omega)]
    exact hobj2
  · have ht2 : t ≠ H.length + 2 := fun e => by
      have := hnp0.tab
      rw [e, h2] at this
      injection this with this
      cases this
    rw [List.getElem?_set, if_neg hqt]
    exact hkp _ _ hnp0.tab (fun e => hqt e.symm) ht2
  · rw [List.getElem?_set, if_pos rfl, if_pos (by simp; omega)]
theorem variable_of {g kg key sh tb} {leaf : Int → BB} {k : Nat} (hg : Fair g) (hlv : ∀ m, inG g m → (at0 g m).kind = 9 → ∃ x, (at0 g m).l = [x])
    (IH : ∀ k', k = k' + 1 → NSpec g kg key sh tb 99 (lookF g leaf k') k' (fun _ => True)) :
    NSpec g kg key sh tb 72 (oneF g leaf (deepF g leaf k)) k (fun m => inG g m ∧ (at0 g m).kind = 9) := by
  intro H o t op ko dv d n hk hnd hop hn hp
  obtain ⟨hn, hk9⟩ := hn
  have hk1 : ¬ (at0 g n).kind = 1 := by omega
  obtain ⟨i, rfl⟩ : ∃ i : Nat, n = i := ⟨n.toNat, by have := hn.1; omega⟩
  have hil : i < g.length := by have := hn.2; omega
  have hat := at0_nat hil
  have hlt : o < H.length := (List.getElem?_eq_some_iff.1 hp.obj).1
  have ho := app_get hp.obj
  have ht := app_get hp.tab
  unfold nwCells at ho
  have hopl : op.length ≤ g.length := nodup_bound hnd hop
  have hgl := hg.1
  have hcon := fun G => (containsI_ok op ko i G (by omega)).val
  refine CallW.defers rfl fn_72 (by unfold Tryd.f72; rfl) (by rfl) (by unfold Tryd.f72; simp) ?_
  unfold Tryd.f72
  by_cases hin : (i : Int) ∈ op
  · have hr : oneF g leaf (deepF g leaf k) op d i = ((true, true), d) := by simp [oneF, hk1, hk9, hin]
    have hd := NQ.done (l := [.cells [.ptr o 0], .cells [.int .i64 i], .cells [.bool false, .bool false]]) hp (NQ.still (hp.app _) (true, true)) (G := H ++ [.cells [.ptr o 0], .cells [.int .i64 i], .cells [.bool true, .bool true]]) (W := [H.length + 2]) (by simp) (fun x hx => by simp [List.getElem?_append_left hx]) (fun x hx hl => by simp at hx; omega) (fun x hx => by cases hx)
    refine CodeDM.seq ?_ (codeP_ok ?_)
    · rfl
    simp (config := { contextual := true, maxSteps := 1000000 }) [-Int.not_le, -Int.not_lt, -Nat.not_le, -Nat.not_lt]
    refine CodeDM.seq ?_ (codeP_ok ?_)
    · rfl
    simp (config := { contextual := true, maxSteps := 1000000 }) [-Int.not_le, -Int.not_lt, -Nat.not_le, -Nat.not_lt, hcon, hin, thenDM_ret, thenDM_normal, endDM_none]
    rw [hr]
    exact hd
  · by_cases hop0 : op = []
    · subst hop0
      simp only [ints_nil] at hcon
      obtain ⟨x, hx⟩ := hlv i hn hk9
      obtain ⟨k', rfl⟩ : ∃ k', k = k' + 1 := ⟨k - 1, by simp at hk; omega⟩
      have hr : oneF g leaf (deepF g leaf (k' + 1)) [] d i = ((lookF g leaf k' ([] ++ [(i : Int)]) [] x).1, mput (lookF g leaf k' ([] ++ [(i : Int)]) [] x).2 i true) := by simp [oneF, hk1, hk9, hin, deepF, hx, mget]
      have hs := fun (x : EO) (l : Heap) => set_left (H := H) (l := l) (o := o) (x := x) hlt
      have ho2 : ∀ (x : EO) (l : Heap), (H.set o x ++ l)[o]? = some x := fun x l => by rw [List.getElem?_append_left (by simpa using hlt), List.getElem?_set, if_pos rfl, if_pos hlt]
      have hld : ∀ (x a b c : EO), lookupE ep.T (H.set o x ++ [a, b, c, .map []]) 72 (.map (H.length + 3)) (.int .i64 i) false = some (.bool false) := fun x a b c => by
        have := look_don (H := H.set o x ++ [a, b, c, .map []]) (q := H.length + 3) (d := []) (x := i) (by simp)
        simpa [mget] using this
      refine CodeDM.seq ?_ (codeP_ok ?_)
      · rfl
      simp (config := { contextual := true, maxSteps := 1000000 }) [-Int.not_le, -Int.not_lt, -Nat.not_le, -Nat.not_lt]
      refine CodeDM.seq ?_ (codeP_ok ?_)
      · rfl
      simp (config := { contextual := true, maxSteps := 1000000 }) [-Int.not_le, -Int.not_lt, -Nat.not_le, -Nat.not_lt, hcon, hin, thenDM_ret, thenDM_normal, endDM_none]
      refine CodeDM.seq ?_ (codeP_ok ?_)
      · rfl
      simp (config := { contextual := true, maxSteps := 1000000 }) [-Int.not_le, -Int.not_lt, -Nat.not_le, -Nat.not_lt, ↓ho, ↓ho2, hs, thenDM_ret, thenDM_normal, endDM_none]
      refine CodeDM.seq ?_ (codeP_ok ?_)
      · rfl
      simp (config := { contextual := true, maxSteps := 1000000 }) [-Int.not_le, -Int.not_lt, -Nat.not_le, -Nat.not_lt, ↓ho, ↓ho2, hs, hld, thenDM_ret, thenDM_normal, endDM_none]
      refine ⟨by kernel_rfl, ?_⟩
      rw [hr]
      have hH := fun (x : EO) (l : Heap) (y : Nat) (hy : y < H.length) (hne : y ≠ o) => show (H.set o x ++ l)[y]? = H[y]? by
        rw [List.getElem?_append_left (by simpa using hy), List.getElem?_set, if_neg (fun e => hne e.symm)]
      have hlt2 : t < H.length := (List.getElem?_eq_some_iff.1 hp.tab).1
      refine CodeDM.weaken ?_ (tail_of (ko := ko) (op := []) (W0 := [o]) (q := H.length + 3) (d0 := []) (x := x) hg (IH k' rfl) hk hnd hop hil hin (by rw [← hat]; exact hx) hp ⟨by simp, fun y hy hne => hH _ _ y hy (by simpa using hne)⟩ (fun x hx _ => .inl ⟨rfl, by simpa using hx⟩) ⟨ho2 _ _, by rw [hH _ _ t hlt2 hp.ne]; exact hp.tab, fun _ => ⟨_, rfl, by omega, by omega, by simp⟩⟩ (fun e => absurd rfl e) (fun _ => by omega) (by simp) (by simp) (by simp))
      simp [fits_cons, fits_nil]
    · obtain ⟨q, rfl, hq1, hq2, hq3⟩ := hp.don hop0
      have hopl0 : ¬ (op.length : Int) = 0 := by
        have := List.length_pos_iff.2 hop0
        omega
      have hld := fun l => look_don (x := i) (app_get hq3 l)
      by_cases hdone : (mget d i).getD false = true
      · have hr : oneF g leaf (deepF g leaf k) op d i = ((false, false), d) := by simp [oneF, hk1, hk9, hin, hop0, hdone]
        have hd := NQ.done (l := [.cells [.ptr o 0], .cells [.int .i64 i], .cells [.bool false, .bool false]]) hp (NQ.still (hp.app _) (false, false)) (G := H ++ [.cells [.ptr o 0], .cells [.int .i64 i], .cells [.bool false, .bool false]]) (W := [H.length + 2]) (by simp) (fun x hx => by simp [List.getElem?_append_left hx]) (fun x hx hl => by simp at hx; omega) (fun x hx => by cases hx)
        refine CodeDM.seq ?_ (codeP_ok ?_)
        · rfl
        simp (config := { contextual := true, maxSteps := 1000000 }) [-Int.not_le, -Int.not_lt, -Nat.not_le, -Nat.not_lt]
        refine CodeDM.seq ?_ (codeP_ok ?_)
        · rfl
        simp (config := { contextual := true, maxSteps := 1000000 }) [-Int.not_le, -Int.not_lt, -Nat.not_le, -Nat.not_lt, hcon, hin, thenDM_ret, thenDM_normal, endDM_none]
        refine CodeDM.seq ?_ (codeP_ok ?_)
        · rfl
        simp (config := { contextual := true, maxSteps := 1000000 }) [-Int.not_le, -Int.not_lt, -Nat.not_le, -Nat.not_lt, hopl0, hop0, thenDM_ret, thenDM_normal, endDM_none]
        refine CodeDM.seq ?_ (codeP_ok ?_)
        · rfl
        simp (config := { contextual := true, maxSteps := 1000000 }) [-Int.not_le, -Int.not_lt, -Nat.not_le, -Nat.not_lt, hopl0, hop0, ↓ho, hld, hdone, thenDM_ret, thenDM_normal, endDM_none]
        refine ⟨by kernel_rfl, ?_⟩
        rw [hr]
        exact hd
      · obtain ⟨x, hx⟩ := hlv i hn hk9
        obtain ⟨k', rfl⟩ : ∃ k', k = k' + 1 := ⟨k - 1, by
          have := nodup_bound (n := g.length) (a := op ++ [(i : Int)]) (by
            rw [List.nodup_append]
            exact ⟨hnd, by simp, fun a ha b hb => by rw [List.mem_singleton] at hb; subst hb; rintro rfl; exact hin ha⟩) (fun y hy => by
            rcases List.mem_append.1 hy with hy | hy
            · exact hop y hy
            · rw [List.mem_singleton] at hy; omega)
          simp at this
          omega⟩
        have hr : oneF g leaf (deepF g leaf (k' + 1)) op d i = ((lookF g leaf k' (op ++ [(i : Int)]) d x).1, mput (lookF g leaf k' (op ++ [(i : Int)]) d x).2 i true) := by simp [oneF, hk1, hk9, hin, hop0, hdone, deepF, hx]
        refine CodeDM.seq ?_ (codeP_ok ?_)
        · rfl
        simp (config := { contextual := true, maxSteps := 1000000 }) [-Int.not_le, -Int.not_lt, -Nat.not_le, -Nat.not_lt]
        refine CodeDM.seq ?_ (codeP_ok ?_)
        · rfl
        simp (config := { contextual := true, maxSteps := 1000000 }) [-Int.not_le, -Int.not_lt, -Nat.not_le, -Nat.not_lt, hcon, hin, thenDM_ret, thenDM_normal, endDM_none]
        refine CodeDM.seq ?_ (codeP_ok ?_)
        · rfl
        simp (config := { contextual := true, maxSteps := 1000000 }) [-Int.not_le, -Int.not_lt, -Nat.not_le, -Nat.not_lt, hopl0, hop0, thenDM_ret, thenDM_normal, endDM_none]
        refine CodeDM.seq ?_ (codeP_ok ?_)
        · rfl
        simp (config := { contextual := true, maxSteps := 1000000 }) [-Int.not_le, -Int.not_lt, -Nat.not_le, -Nat.not_lt, hopl0, hop0, ↓ho, hld, hdone, thenDM_ret, thenDM_normal, endDM_none]
        refine ⟨by kernel_rfl, ?_⟩
        rw [hr]
        refine CodeDM.weaken ?_ (tail_of (ko := ko) (W0 := []) (q := q) (x := x) hg (IH k' rfl) hk hnd hop hil hin (by rw [← hat]; exact hx) hp ⟨by simp, fun y hy _ => List.getElem?_append_left hy⟩ (fun x hx => by cases hx) ⟨app_get hp.obj _, app_get hp.tab _, fun _ => ⟨q, rfl, hq1, hq2, app_get hq3 _⟩⟩ (fun _ => rfl) (fun e => absurd e hop0) (by simp) (by simp) (by simp))
        simp [fits_cons, fits_nil]

/-- The narrower's calls, at whatever depth. -/
theorem narrow_all {g kg key sh tb} {leaf : Int → BB} (hg : Fair g) (hmi : ∀ n, ∀ m ∈ members g n, inG g m) (hlv : ∀ m, inG g m → (at0 g m).kind = 9 → ∃ x, (at0 g m).l = [x])
    (h1 : mget tb 1 = some 71) (h9 : mget tb 9 = some 72)
    (hl : ∀ m, inG g m → (at0 g m).kind ≠ 1 → (at0 g m).kind ≠ 9 → ∃ f, ((mget tb (at0 g m).kind).isSome = true ∧ mget tb (at0 g m).kind = some f ∨ mget tb (at0 g m).kind = none ∧ mget tb 0 = some f) ∧ ∀ H o t dv op, H[o]? = some (.cells (nwCells g kg key sh (.map t) dv)) → CallR ep dQ f [.ptr o 0, .int .i64 m, op] H (.agg [.bool (leaf m).1, .bool (leaf m).2]) H []) :
    ∀ k, NSpec g kg key sh tb 74 (oneF g leaf (deepF g leaf k)) k (inG g) ∧ NSpec g kg key sh tb 99 (lookF g leaf k) k (fun _ => True) := by
  intro k
  induction k with
  | zero =>
    have h := one_of hg h1 h9 (variable_of (k := 0) hg hlv (fun k' e => by omega)) hl
    exact ⟨h, looked_of hg hmi h⟩
  | succ k ih =>
    have h := one_of hg h1 h9 (variable_of (k := k + 1) hg hlv (fun k' e => by
      have : k' = k := by omega
      subst this
      exact ih.2)) hl
    exact ⟨h, looked_of hg hmi h⟩
end Go.Ev
end

/- What narrowing by a key computes. -/
section
namespace Go.Ev
open Go Go.Proofs
set_option linter.unusedSimpArgs false
set_option linter.unusedVariables false
set_option maxRecDepth 100000
set_option maxHeartbeats 200000

/-- Nothing hangs on what was done, ahead of all variables. -/
theorem oneF_top {g : List GN} {leaf : Int → BB} {deep : List Int → DM → Int → BB × DM} {d : DM} {m : Int} : (oneF g leaf deep [] d m).1 = (oneF g leaf deep [] [] m).1 := by
  unfold oneF
  split
  · rfl
  split
  · simp
  · rfl
theorem foldF_top {one : DM → Int → BB × DM} (h : ∀ d m, (one d m).1 = (one [] m).1) : ∀ (l : List Int) (s : BB × DM), (l.foldl (fun s m => (orB s.1 (one s.2 m).1, (one s.2 m).2)) s).1 = l.foldl (fun b m => orB b (one [] m).1) s.1
  | [], _ => rfl
  | m :: l, s => by
    rw [List.foldl_cons, List.foldl_cons, foldF_top h l]
    dsimp only
    rw [h]
/-- A node's narrowing, ahead of all variables. -/
def narV (g : List GN) (leaf : Int → BB) (m : Int) : BB := (oneF g leaf (deepF g leaf g.length) [] [] m).1
def lookV (g : List GN) (leaf : Int → BB) (n : Int) : BB := (members g n).foldl (fun b m => orB b (narV g leaf m)) (false, false)
theorem lookF_top {g : List GN} {leaf : Int → BB} {d : DM} {n : Int} : (lookF g leaf g.length [] d n).1 = lookV g leaf n := by
  rw [lookF_eq]
  unfold foldF lookV narV
  rw [foldF_top (one := oneF g leaf (deepF g leaf g.length) []) (fun d m => oneF_top)]
theorem orB_fold {f : Int → BB} : ∀ {l : List Int} {b : BB}, l.foldl (fun b m => orB b (f m)) b = (b.1 || l.any fun m => (f m).1, b.2 || l.any fun m => (f m).2)
  | [], b => by simp
  | m :: l, b => by
    rw [List.foldl_cons, orB_fold]
    simp [orB, Bool.or_assoc]
theorem lookV_eq {g : List GN} {leaf : Int → BB} {n : Int} : lookV g leaf n = ((members g n).any fun m => (narV g leaf m).1, (members g n).any fun m => (narV g leaf m).2) := by
  unfold lookV
  rw [orB_fold]
  simp

theorem kind_plain {g : List GN} (m : Int) (h1 : (at0 g m).kind ≠ 1) (h9 : (at0 g m).kind ≠ 9) (h0 : (at0 g m).kind ≠ 0) : mget tbS (at0 g m).kind = none ∧ mget tbS 0 = some 73 := by
  simp [tbS, mget, Ne.symm h1, Ne.symm h9, Ne.symm h0]
/-- What holds of a graph that may be. -/
structure Good (g : List GN) : Prop where
  fair : Fair g
  mem : ∀ n, ∀ m ∈ members g n, inG g m
  var : ∀ m, inG g m → (at0 g m).kind = 9 → ∃ x, (at0 g m).l = [x]
  kind : ∀ m, inG g m → (at0 g m).kind ≠ 0
  recs : ∀ m, inG g m → (at0 g m).kind = 7 → risen (at0 g m).keys = true ∧ (at0 g m).l.length = (at0 g m).keys.length
theorem good_of {g : List GN} (hg : Fair g) (hc : checkG g = 0) : Good g := by
  have hok : ∀ m, inG g m → nodeOk g (at0 g m) = true := fun m hm => (check_ok0 hc).2 _ (at0_mem (by unfold inG at hm; omega))
  refine ⟨hg, fun n m hm => members_in hc n m hm, fun m hm hk => ?_, fun m hm hk => ?_, fun m hm hk => ?_⟩
  · have := hok m hm
    simp [nodeOk, hk] at this
    have h1 : (at0 g m).l.length = 1 := by omega
    exact List.length_eq_one_iff.1 h1
  · have := hok m hm
    simp [nodeOk, hk] at this
  · have := hok m hm
    simp [nodeOk, hk] at this
    exact ⟨this.2.1.2, by omega⟩
theorem byShape_all {g : List GN} (hg : Good g) (kg : Cap) (key : Str) (sh : GN) (k : Nat) :
    NSpec g kg key sh tbS 74 (oneF g (plainF g sh) (deepF g (plainF g sh) k)) k (inG g) ∧ NSpec g kg key sh tbS 99 (lookF g (plainF g sh) k) k (fun _ => True) :=
  narrow_all hg.fair hg.mem hg.var rfl rfl (fun m hm h1 h9 => ⟨73, .inr (kind_plain m h1 h9 (hg.kind m hm)), fun H o t dv op ho => plain_ok g kg key sh (.map t) dv op o m H ho hm.1 (by have := hm.1; have := hm.2; omega)⟩) k
/-- A record, narrowed by a key. -/
def recF (g : List GN) (key : Str) (sh : GN) (m : Int) : BB := if (at0 g m).keys.contains key then lookV g (plainF g sh) ((at0 g m).l.getD (bsN (at0 g m).keys key) 0) else (false, true)
theorem bsN_lt {l : List Str} {x : Str} (hs : risen l = true) (h : l.contains x = true) : bsN l x < l.length := by
  unfold bsN
  have hle := List.takeWhile_prefix (p := (Op.bytesLess · x)) (l := l)
  rcases Nat.lt_or_eq_of_le hle.length_le with h1 | h1
  · exact h1
  · have he := hle.eq_of_length h1
    rw [List.contains_iff_mem] at h
    rw [← he] at h
    have := List.all_eq_true.1 List.all_takeWhile _ h
    rw [less_self] at this
    cases this
theorem record_ok {g : List GN} (hg : Good g) (kg : Cap) (key : Str) (sh : GN) (tv dv op : EV) (o : Nat) (m : Int) (H : Heap) (ho : H[o]? = some (EO.cells (nwCells g kg key sh tv dv))) (hm : inG g m) (hk : (at0 g m).kind = 7) :
    CallR ep dQ 83 [.ptr o 0, .int .i64 m, op] H (.agg [.bool (recF g key sh m).1, .bool (recF g key sh m).2]) H [] := by
  obtain ⟨i, rfl⟩ : ∃ i : Nat, m = i := ⟨m.toNat, by have := hm.1; omega⟩
  have hil : i < g.length := by have := hm.2; omega
  have hat := at0_nat hil
  obtain ⟨hr, hlk⟩ := hg.recs i hm hk
  rw [hat] at hr hlk
  have hlt : o < H.length := (List.getElem?_eq_some_iff.1 ho).1
  have ha := app_get ho
  unfold nwCells at ha
  have hfr := hg.fair.2 _ (List.getElem_mem hil)
  have hbs := fun G => (search_ok g[i].keys .no key G hfr.2 hr).val
  by_cases hc : key ∈ g[i].keys
  · have hbl := bsN_lt hr (List.contains_iff_mem.2 hc)
    have hbl2 : bsN g[i].keys key < g[i].l.length := by omega
    have hnew : (H ++ [EO.cells [.bool false, .bool false], EO.cells (nwCells g kg [] sh .nilm .nilm)])[H.length + 1]? = some (EO.cells (nwCells g kg [] sh .nilm .nilm)) := by simp
    have hb := byShape_ok g kg [] sh .nilm .nilm (H.length + 1) _ hnew
    have hnp : NP g kg [] sh tbS (H.length + 1) (H.length + 2) [] .nilm [] (H ++ [EO.cells [.bool false, .bool false], EO.cells (nwCells g kg [] sh (.map (H.length + 2)) .nilm), EO.map (tabOf tbS (H.length + 1))]) :=
      ⟨by simp, by simp, fun e => absurd rfl e⟩
    have hset : (H ++ [EO.cells [.bool false, .bool false], EO.cells (nwCells g kg [] sh .nilm .nilm)]).set (H.length + 1) (EO.cells (nwCells g kg [] sh (.map (H ++ [EO.cells [.bool false, .bool false], EO.cells (nwCells g kg [] sh .nilm .nilm)]).length) .nilm)) ++ [EO.map (tabOf tbS (H.length + 1))] = H ++ [EO.cells [.bool false, .bool false], EO.cells (nwCells g kg [] sh (.map (H.length + 2)) .nilm), EO.map (tabOf tbS (H.length + 1))] := by simp [List.set_append]
    rw [hset] at hb
    obtain ⟨v, H1, W1, hcl, hq⟩ := (byShape_all hg kg [] sh g.length).2 _ (H.length + 1) (H.length + 2) [] .tight .nilm [] g[i].l[bsN g[i].keys key] (by simp) (by simp) (by simp) trivial hnp
    have hv := hq.val
    rw [lookF_top] at hv
    subst hv
    have hrec : recF g key sh i = lookV g (plainF g sh) g[i].l[bsN g[i].keys key] := by
      unfold recF
      rw [hat, if_pos (List.contains_iff_mem.2 hc), List.getD_eq_getElem?_getD, List.getElem?_eq_getElem hbl2]
      rfl
    have hW1 : ∀ y ∈ W1, y = H.length + 1 := fun y hy => by
      rcases hq.wrt y hy with ⟨_, e⟩ | ⟨e, _⟩
      · exact e
      · exact absurd rfl e
    have h1at : H1[H.length]? = some (.cells [.bool false, .bool false]) := by
      rw [hq.grw.2 H.length (by simp) (fun e => by have := hW1 _ e; omega)]
      simp
    have hbv := hb.val
    have hcv := hcl.val
    unfold nwCells at hbv hcv
    simp only [ints_nil] at hcv
    have hl1 := (List.getElem?_eq_some_iff.1 h1at).1
    have h2at : ∀ x, (H1.set H.length x)[H.length]? = some x := fun x => by rw [List.getElem?_set, if_pos rfl, if_pos hl1]
    have hff := hf1 (H := H) (W := (H.length + 1) :: (W1 ++ [H.length])) (fun y hy => by
      simp at hy
      rcases hy with hy | hy | hy
      · omega
      · have := hW1 y hy; omega
      · omega)
    refine CallW.is (CallW.body rfl fn_83 (by unfold Tryd.f83; rfl) (by rfl) (by unfold Tryd.f83; simp) ?_)
    unfold Tryd.f83
    simp (config := { contextual := true, maxSteps := 1000000 }) [-Int.not_le, -Int.not_lt, -Nat.not_le, -Nat.not_lt, ↓ha, hil, hbs, hc]
    refine ⟨by kernel_rfl, by kernel_rfl, draw2R_of [.p false, .p false, .p false, .p false, .p false, .p false, .p false, .p false, .p true, .a [], .p false] [] (by kernel_rfl) (by kernel_rfl) [] ?_⟩
    have hob : o < H.length + 1 := by omega
    simp (config := { contextual := true, maxSteps := 1000000 }) [-Int.not_le, -Int.not_lt, -Nat.not_le, -Nat.not_lt, ↓ha, hob, hil, hbs, hc]
    refine ⟨by kernel_rfl, draw2R_of [.p false, .c false [], .p false, .p false, .p false, .p false, .p false, .p false, .p false, .p false, .p false, .p false, .p false, .c false [], .a []] [] (by kernel_rfl) (by kernel_rfl) [H.length, H.length + 1] ?_⟩
    have ho2 : o < H.length + 2 := by omega
    have n1 : ¬ o = H.length := by omega
    have n2 : ¬ o = H.length + 1 := by omega
    simp (config := { contextual := true, maxSteps := 1000000 }) [-Int.not_le, -Int.not_lt, -Nat.not_le, -Nat.not_lt, ↓ha, ho2, n1, n2, hil, hbv, hcv, ↓h1at, ↓h2at, hff, hrec, hbl2, -inE]
    rw [inE_iff]
    intro y hy
    simp at hy
    rcases hy with hy | hy | hy
    · simp [hy]
    · simp [hW1 y hy]
    · simp [hy]
  · have hrec : recF g key sh i = (false, true) := by
      unfold recF
      rw [hat, if_neg (fun e => hc (List.contains_iff_mem.1 e))]
    refine CallW.is (CallW.body rfl fn_83 (by unfold Tryd.f83; rfl) (by rfl) (by unfold Tryd.f83; simp) ?_)
    unfold Tryd.f83
    simp (config := { contextual := true, maxSteps := 1000000 }) [-Int.not_le, -Int.not_lt, -Nat.not_le, -Nat.not_lt, ha, hil, hbs, hc, hf1]
    refine ⟨by kernel_rfl, ?_⟩
    rw [hrec]
    exact ⟨rfl, rfl⟩

def leafK (g : List GN) (key : Str) (sh : GN) (m : Int) : BB := if (at0 g m).kind = 7 then recF g key sh m else (false, true)
theorem byKey_all {g : List GN} (hg : Good g) (kg : Cap) (key : Str) (sh : GN) (k : Nat) :
    NSpec g kg key sh tbK 74 (oneF g (leafK g key sh) (deepF g (leafK g key sh) k)) k (inG g) ∧ NSpec g kg key sh tbK 99 (lookF g (leafK g key sh) k) k (fun _ => True) :=
  narrow_all hg.fair hg.mem hg.var rfl rfl (fun m hm h1 h9 => by
    have h0 := hg.kind m hm
    by_cases h7 : (at0 g m).kind = 7
    · refine ⟨83, .inl ?_, fun H o t dv op ho => ?_⟩
      · simp [tbK, mget, h7]
      · have := record_ok hg kg key sh (.map t) dv op o m H ho hm h7
        simpa [leafK, h7] using this
    · refine ⟨84, .inr ?_, fun H o t dv op ho => ?_⟩
      · simp [tbK, mget, Ne.symm h1, Ne.symm h9, Ne.symm h0, Ne.symm h7]
      · simpa [leafK, h7] using other_ok (.ptr o 0) (.int .i64 m) op H) k
end Go.Ev
end

/- What is left of a type. -/
section
namespace Go.Ev
open Go Go.Proofs
set_option linter.unusedSimpArgs false
set_option linter.unusedVariables false
set_option maxRecDepth 100000
set_option maxHeartbeats 200000

/-- Three slices that may grow, apart from each other. -/
structure Own3 (G : Heap) (base : Nat) (z1 n1 : Nat) (k1 : Cap) (z2 n2 : Nat) (k2 : Cap) (z3 n3 : Nat) (k3 : Cap) : Prop where
  o1 : Own z1 G n1 k1
  o2 : Own z2 G n2 k2
  o3 : Own z3 G n3 k3
  d12 : ∀ a, k1 = .tok a → k2 ≠ .tok a
  d13 : ∀ a, k1 = .tok a → k3 ≠ .tok a
  d23 : ∀ a, k2 = .tok a → k3 ≠ .tok a
  b1 : ∀ a, k1 = .tok a → base ≤ a
  b2 : ∀ a, k2 = .tok a → base ≤ a
  b3 : ∀ a, k3 = .tok a → base ≤ a
def TipsKept (G G' : Heap) : Prop := ∀ a n : Nat, G[a]? = some (EO.tip n) → G'[a]? = some (EO.tip n)
theorem Own.keep {z n : Nat} {G G' : Heap} {k : Cap} (h : Own z G n k) (ht : TipsKept G G') : Own z G' n k := by
  cases k with
  | no => exact h
  | tight => exact h
  | tok o => exact ht _ _ h
theorem Own3.rot {G base z1 n1 k1 z2 n2 k2 z3 n3 k3} (h : Own3 G base z1 n1 k1 z2 n2 k2 z3 n3 k3) : Own3 G base z2 n2 k2 z3 n3 k3 z1 n1 k1 :=
  ⟨h.o2, h.o3, h.o1, h.d23, fun a e f => h.d12 a f e, fun a e f => h.d13 a f e, h.b2, h.b3, h.b1⟩
theorem Own3.keep {G G' base z1 n1 k1 z2 n2 k2 z3 n3 k3} (h : Own3 G base z1 n1 k1 z2 n2 k2 z3 n3 k3) (ht : TipsKept G G') : Own3 G' base z1 n1 k1 z2 n2 k2 z3 n3 k3 :=
  { h with o1 := h.o1.keep ht, o2 := h.o2.keep ht, o3 := h.o3.keep ht }
theorem Own.lt {z n a : Nat} {G : Heap} {k : Cap} (h : Own z G n k) (e : k = .tok a) : a < G.length := by
  subst e
  exact (List.getElem?_eq_some_iff.1 h).1
theorem Own.kill {z n : Nat} {G : Heap} {k k1 : Cap} {x : EO} (h : Own z G n k) (hd : ∀ a, k1 = .tok a → k ≠ .tok a) : Own z (killH G k1 ++ [x]) n k := by
  cases k with
  | no => exact h
  | tight => exact h
  | tok o =>
    have hl : o < G.length := (List.getElem?_eq_some_iff.1 h).1
    simp only [Own]
    rw [List.getElem?_append_left (by rw [killH_length]; exact hl), killH_get (fun e => hd o e rfl)]
    exact h
theorem Own3.push {G base z1 n1 k1 z2 n2 k2 z3 n3 k3} (h : Own3 G base z1 n1 k1 z2 n2 k2 z3 n3 k3) (hb : base ≤ G.length) (m : Nat) : Own3 (killH G k1 ++ [.tip (m * z1)]) base z1 m (.tok G.length) z2 n2 k2 z3 n3 k3 :=
  ⟨by simp [Own, killH_length], h.o2.kill h.d12, h.o3.kill h.d13, fun a e f => by
    injection e with e
    have := h.o2.lt f
    omega, fun a e f => by
    injection e with e
    have := h.o3.lt f
    omega, h.d23, fun a e => by injection e with e; omega, h.b2, h.b3⟩
theorem tips_app {G l : Heap} : TipsKept G (G ++ l) := fun a n h => app_get h l
theorem tips_set {G : Heap} {p : Nat} {cs : List EV} {x : EO} (hp : G[p]? = some (.cells cs)) : TipsKept G (G.set p x) := fun a n h => by
  rw [List.getElem?_set, if_neg (fun e => ?_)]
  · exact h
  · subst e
    rw [hp] at h
    injection h with h
    cases h
theorem kill_cells {G : Heap} {k : Cap} {z n a : Nat} {cs : List EV} {x : EO} (ho : Own z G n k) (h : G[a]? = some (.cells cs)) : (killH G k ++ [x])[a]? = some (.cells cs) := by
  have hl := (List.getElem?_eq_some_iff.1 h).1
  rw [List.getElem?_append_left (by rw [killH_length]; exact hl), killH_get (fun e => ?_)]
  · exact h
  · subst e
    rw [Own, h] at ho
    injection ho with ho
    cases ho
theorem kill_map {G : Heap} {k : Cap} {z n a : Nat} {cs : List (EV × EV)} {x : EO} (ho : Own z G n k) (h : G[a]? = some (.map cs)) : (killH G k ++ [x])[a]? = some (.map cs) := by
  have hl := (List.getElem?_eq_some_iff.1 h).1
  rw [List.getElem?_append_left (by rw [killH_length]; exact hl), killH_get (fun e => ?_)]
  · exact h
  · subst e
    rw [Own, h] at ho
    injection ho with ho
    cases ho

/-- While what is left of a type is found: the graph that grows, the places for yes and for no. -/
structure NW (H : Heap) (o t : Nat) (g : List GN) (kg : Cap) (key : Str) (sh : GN) (tb : List (Int × Nat)) (hg ly ln : Nat × Cap) (out : List EV) (G : Heap) (W : List Nat) : Prop where
  grw : Grw H G W
  wrt : ∀ x ∈ W, x < H.length → x = o
  np : ∃ dv, NP g kg key sh tb o t [] dv [] G
  cel : G[H.length]? = some (.cells out)
  toks : Own3 G H.length 5 hg.1 hg.2 1 ly.1 ly.2 1 ln.1 ln.2
theorem NW.congr {H o t g kg key sh tb hg ly ln out G W W'} (h : NW H o t g kg key sh tb hg ly ln out G W) (e : ∀ x, x ∈ W' ↔ x ∈ W) : NW H o t g kg key sh tb hg ly ln out G W' :=
  { h with grw := ⟨h.grw.1, fun x hx hn => h.grw.2 x hx (fun hm => hn ((e x).2 hm))⟩, wrt := fun x hx => h.wrt x ((e x).1 hx) }
theorem NW.frame {H o t g kg key sh tb hg ly ln out G W G' W2} (h : NW H o t g kg key sh tb hg ly ln out G W) (ho : o < H.length) (hl : G.length ≤ G'.length) (hk : ∀ a < G.length, a ∉ W2 → G'[a]? = G[a]?) (hw : ∀ x ∈ W2, H.length ≤ x) (ht : ∃ dv, NP g kg key sh tb o t [] dv [] G') (hc : G'[H.length]? = some (.cells out)) {hg' ly' ln'} (hT : Own3 G' H.length 5 (Prod.fst hg') (Prod.snd hg') 1 (Prod.fst ly') (Prod.snd ly') 1 (Prod.fst ln') (Prod.snd ln')) : NW H o t g kg key sh tb hg' ly' ln' out G' (W ++ W2) := by
  have hgl := h.grw.1
  refine ⟨⟨by omega, fun x hx hn => ?_⟩, fun x hx hxl => ?_, ht, hc, hT⟩
  · rw [hk x (by omega) (fun e => hn (List.mem_append_right _ e))]
    exact h.grw.2 x hx (fun e => hn (List.mem_append_left _ e))
  · rcases List.mem_append.1 hx with hx | hx
    · exact h.wrt x hx hxl
    · have := hw x hx
      omega
/-- An object more. -/
theorem NW.app {H o t g kg key sh tb hg ly ln out G W} (h : NW H o t g kg key sh tb hg ly ln out G W) (ho : o < H.length) (l : Heap) (W2 : List Nat) (hw : ∀ x ∈ W2, H.length ≤ x) : NW H o t g kg key sh tb hg ly ln out (G ++ l) (W ++ W2) := by
  obtain ⟨dv, hnp⟩ := h.np
  exact h.frame ho (by simp) (fun a ha _ => List.getElem?_append_left ha) hw ⟨dv, hnp.app l⟩ (app_get h.cel l) (h.toks.keep tips_app)
theorem NW.lt {H o t g kg key sh tb hg ly ln out G W} (h : NW H o t g kg key sh tb hg ly ln out G W) : H.length < G.length := (List.getElem?_eq_some_iff.1 h.cel).1
/-- Other cells in the object of one's own. -/
theorem NW.set {H o t g kg key sh tb hg ly ln out G W} (h : NW H o t g kg key sh tb hg ly ln out G W) (ho : o < H.length) (out' : List EV) : NW H o t g kg key sh tb hg ly ln out' (G.set H.length (.cells out')) (W ++ [H.length]) := by
  obtain ⟨dv, hnp⟩ := h.np
  have hlt := h.lt
  have hT := h.toks.keep (tips_set (x := EO.cells out') h.cel)
  have hnp' := hnp.keep h.cel (show o ≠ H.length by omega) (X := G.set H.length (.cells out')) (fun y z hy hne => by rw [List.getElem?_set, if_neg (fun e => hne e.symm)]; exact hy)
  have hg := h.grw
  refine ⟨⟨by simp; omega, fun x hx hn => ?_⟩, fun x hx hxl => ?_, ⟨dv, hnp'⟩, by rw [List.getElem?_set, if_pos rfl, if_pos hlt], hT⟩
  · rw [List.getElem?_set, if_neg (by omega)]
    exact hg.2 x hx (fun e => hn (List.mem_append_left _ e))
  · rcases List.mem_append.1 hx with hx | hx
    · exact h.wrt x hx hxl
    · rw [List.mem_singleton] at hx; omega
/-- A slice grows. -/
theorem NW.kill {H o t g kg key sh tb hg ly ln out G W z n} {k : Cap} (h : NW H o t g kg key sh tb hg ly ln out G W) (ho : o < H.length) (hk : Own z G n k) (hb : ∀ a, k = .tok a → H.length ≤ a) {x : EO} {hg' ly' ln'} (hT : Own3 (killH G k ++ [x]) H.length 5 (Prod.fst hg') (Prod.snd hg') 1 (Prod.fst ly') (Prod.snd ly') 1 (Prod.fst ln') (Prod.snd ln')) : NW H o t g kg key sh tb hg' ly' ln' out (killH G k ++ [x]) (W ++ killW k) := by
  obtain ⟨dv, hnp⟩ := h.np
  refine h.frame ho (by simp [killH_length]) (fun a ha hn => ?_) (fun y hy => ?_) ⟨dv, kill_cells hk hnp.obj, kill_map hk hnp.tab, fun e => absurd rfl e⟩ (kill_cells hk h.cel) hT
  · rw [List.getElem?_append_left (by rw [killH_length]; exact ha), killH_get (fun e => hn (by rw [e]; simp))]
  · cases k with
    | tok a => simp at hy; rw [hy]; exact hb a rfl
    | _ => simp [killW] at hy

theorem NW.call {H o t g kg key sh tb hg ly ln out G W} (h : NW H o t g kg key sh tb hg ly ln out G W) (ho : o < H.length) {dv r v H1 W1} (hnp : NP g kg key sh tb o t [] dv [] G) (hq : NQ g kg key sh o t [] dv G r v H1 W1) : NW H o t g kg key sh tb hg ly ln out H1 (W ++ W1) := by
  have hW1 : ∀ y ∈ W1, y = o := fun y hy => by
    rcases hq.wrt y hy with ⟨_, e⟩ | ⟨e, _⟩
    · exact e
    · exact absurd rfl e
  obtain ⟨dv', _, hnp'⟩ := hq.np hnp
  have hlt := h.lt
  have hg := h.grw.trans hq.grw
  refine ⟨hg, fun x hx hxl => ?_, ⟨dv', hnp'.obj, hnp'.tab, fun e => absurd rfl e⟩, ?_, h.toks.keep fun a n ha => ?_⟩
  · rcases List.mem_append.1 hx with hx | hx
    · exact h.wrt x hx hxl
    · exact hW1 x hx
  · rw [hq.grw.2 _ hlt (fun e => by have := hW1 _ e; omega)]
    exact h.cel
  · rw [hq.grw.2 a (List.getElem?_eq_some_iff.1 ha).1 (fun e => ?_)]
    · exact ha
    · rw [hW1 a e, hnp.obj] at ha
      injection ha with ha
      cases ha
theorem NW.grow3 {H o t g kg key sh tb hg ly n kn out G W} (h : NW H o t g kg key sh tb hg ly (n, kn) out G W) (ho : o < H.length) {ln : List Int} (hn : ln.length = n) (hb : n + 1 ≤ 1000000) (m : Int) :
    ∃ G' k', (∀ kk, appendE ep.T true G 23 23 (.fz (ints ln) kn) (.fz [[.int .i64 m]] kk) = some (.fz (ints (ln ++ [m])) k', G', killW kn)) ∧ G'[H.length]? = some (.cells out) ∧ (∀ (x : Nat) (cs : List EV), G[x]? = some (EO.cells cs) → G'[x]? = some (EO.cells cs)) ∧ ∀ out', NW H o t g kg key sh tb hg ly (n + 1, k') out' (G'.set H.length (.cells out')) (W ++ (killW kn ++ [H.length])) := by
  subst hn
  have hk := h.toks.o3
  have hT := h.toks.rot.rot.push (by have := h.lt; omega) (ln.length + 1)
  rw [Nat.mul_one] at hT
  have h1 := h.kill (hg' := hg) (ly' := ly) (ln' := (ln.length + 1, .tok G.length)) ho hk h.toks.b3 hT.rot
  refine ⟨_, _, fun kk => app_int hb hk, h1.cel, fun x cs hx => kill_cells hk hx, fun out' => ?_⟩
  rw [← List.append_assoc]
  exact h1.set ho out'
theorem NW.grow2 {H o t g kg key sh tb hg n ky ln out G W} (h : NW H o t g kg key sh tb hg (n, ky) ln out G W) (ho : o < H.length) {ly : List Int} (hn : ly.length = n) (hb : n + 1 ≤ 1000000) (m : Int) :
    ∃ G' k', (∀ kk, appendE ep.T true G 23 23 (.fz (ints ly) ky) (.fz [[.int .i64 m]] kk) = some (.fz (ints (ly ++ [m])) k', G', killW ky)) ∧ G'[H.length]? = some (.cells out) ∧ (∀ (x : Nat) (cs : List EV), G[x]? = some (EO.cells cs) → G'[x]? = some (EO.cells cs)) ∧ ∀ out', NW H o t g kg key sh tb hg (n + 1, k') ln out' (G'.set H.length (.cells out')) (W ++ (killW ky ++ [H.length])) := by
  subst hn
  have hk := h.toks.o2
  have hT := h.toks.rot.push (by have := h.lt; omega) (ly.length + 1)
  rw [Nat.mul_one] at hT
  have h1 := h.kill (hg' := hg) (ly' := (ly.length + 1, .tok G.length)) (ln' := ln) ho hk h.toks.b2 hT.rot.rot
  refine ⟨_, _, fun kk => app_int hb hk, h1.cel, fun x cs hx => kill_cells hk hx, fun out' => ?_⟩
  rw [← List.append_assoc]
  exact h1.set ho out'
theorem NW.grow1 {H o t g kg key sh tb n kh ly ln out G W} (h : NW H o t g kg key sh tb (n, kh) ly ln out G W) (ho : o < H.length) {gr : List GN} (hn : gr.length = n) (hb : n + 1 ≤ 1000000) (hsh : sh.keys = [] ∧ sh.l = []) :
    ∃ G' k', (∀ kk, appendE ep.T true G 22 22 (.fz (nodes gr) kh) (.fz [[.int .i64 sh.kind, .int .i64 sh.num, .str sh.name, .fz (strs sh.keys) .no, .fz (ints sh.l) .no]] kk) = some (.fz (nodes (gr ++ [sh])) k', G', killW kh)) ∧ (∀ (x : Nat) (cs : List EV), G[x]? = some (EO.cells cs) → G'[x]? = some (EO.cells cs)) ∧ NW H o t g kg key sh tb (n + 1, k') ly ln out G' (W ++ killW kh) := by
  subst hn
  have hk := h.toks.o1
  have hT := h.toks.push (by have := h.lt; omega) (gr.length + 1)
  have h1 := h.kill (hg' := (gr.length + 1, .tok G.length)) (ly' := ly) (ln' := ln) ho hk h.toks.b1 hT
  exact ⟨_, _, fun kk => app_node (by omega) hk, fun x cs hx => kill_cells hk hx, h1⟩
/-- A member, gone through. -/
def stepN (g : List GN) (key : Str) (sh : GN) (one : Int → BB) (s : List GN × List Int × List Int) (m : Int) : List GN × List Int × List Int :=
  if (one m).1 = true then
    if (at0 g m).kind = 1 ∧ key = [] ∧ sh.kind ≠ 7 then (s.1 ++ [sh], s.2.1 ++ [(s.1.length : Int)], if (one m).2 = true then s.2.2 ++ [m] else s.2.2)
    else (s.1, s.2.1 ++ [m], if (one m).2 = true then s.2.2 ++ [m] else s.2.2)
  else (s.1, s.2.1, if (one m).2 = true then s.2.2 ++ [m] else s.2.2)
def foldN (g : List GN) (key : Str) (sh : GN) (one : Int → BB) (l : List Int) : List GN × List Int × List Int := l.foldl (stepN g key sh one) (g, [], [])
theorem foldN_take {g : List GN} {key : Str} {sh : GN} {one : Int → BB} {l : List Int} {i : Nat} (h : i < l.length) : foldN g key sh one (l.take (i + 1)) = stepN g key sh one (foldN g key sh one (l.take i)) l[i] := by
  unfold foldN
  rw [List.take_add_one, List.foldl_append, List.getElem?_eq_getElem h]
  rfl
theorem foldN_len {g : List GN} {key : Str} {sh : GN} {one : Int → BB} : ∀ {l : List Int} {s : List GN × List Int × List Int}, (l.foldl (stepN g key sh one) s).1.length ≤ s.1.length + l.length ∧ (l.foldl (stepN g key sh one) s).2.1.length ≤ s.2.1.length + l.length ∧ (l.foldl (stepN g key sh one) s).2.2.length ≤ s.2.2.length + l.length
  | [], s => by simp
  | m :: l, s => by
    rw [List.foldl_cons]
    have := foldN_len (g := g) (key := key) (sh := sh) (one := one) (l := l) (s := stepN g key sh one s m)
    have h1 : (stepN g key sh one s m).1.length ≤ s.1.length + 1 ∧ (stepN g key sh one s m).2.1.length ≤ s.2.1.length + 1 ∧ (stepN g key sh one s m).2.2.length ≤ s.2.2.length + 1 := by
      unfold stepN
      split
      · split
        · refine ⟨by simp, by simp, ?_⟩
          split <;> simp
        · refine ⟨by simp, by simp, ?_⟩
          split <;> simp
      · refine ⟨by simp, by simp, ?_⟩
        split <;> simp
    simp only [List.length_cons]
    omega
/-- What is left. -/
def narG (g : List GN) (key : Str) (sh : GN) (one : Int → BB) (n : Int) : List GN × List Int × List Int := foldN g key sh one (members g n)
def narH (g : List GN) (key : Str) (sh : GN) (one : Int → BB) (n : Int) : List GN := leftG (leftG (narG g key sh one n).1 n (narG g key sh one n).2.1) n (narG g key sh one n).2.2
def narY (g : List GN) (key : Str) (sh : GN) (one : Int → BB) (n : Int) : Int := leftN (narG g key sh one n).1 n (narG g key sh one n).2.1
def narN (g : List GN) (key : Str) (sh : GN) (one : Int → BB) (n : Int) : Int := leftN (leftG (narG g key sh one n).1 n (narG g key sh one n).2.1) n (narG g key sh one n).2.2
def big (g : List GN) : Bool := decide (2000 < g.length)
theorem members_nodup {g : List GN} (hc : checkG g = 0) (n : Int) : (members g n).Nodup := by
  unfold members
  split
  · simp
  · rename_i hn
    split
    · rename_i hk
      have := (check_ok0 hc).2 _ (at0_mem hn)
      simp [nodeOk, hk] at this
      exact this.2.2
    · simp
theorem members_small {g : List GN} (hc : checkG g = 0) (n : Int) : (members g n).length ≤ g.length := nodup_bound (members_nodup hc n) (members_in hc n)

/-- All places of a graph are its own. -/
def Inn (h : List GN) : Prop := ∀ x ∈ h, ∀ p ∈ x.l, 0 ≤ p ∧ p < (h.length : Int)
theorem inn_of {g : List GN} (hc : checkG g = 0) : Inn g := fun x hx p hp => node_places ((check_ok0 hc).2 x hx) p hp
theorem Inn.push {h : List GN} (hi : Inn h) {x : GN} (hx : ∀ p ∈ x.l, 0 ≤ p ∧ p < (h.length : Int)) : Inn (h ++ [x]) := fun y hy p hp => by
  rw [List.length_append, List.length_singleton]
  rcases List.mem_append.1 hy with hy | hy
  · have := hi y hy p hp; omega
  · rw [List.mem_singleton] at hy
    subst hy
    have := hx p hp; omega
theorem Inn.mem {h : List GN} (hi : Inn h) (n : Int) : ∀ m ∈ members h n, 0 ≤ m ∧ m < (h.length : Int) := fun m hm => by
  unfold members at hm
  split at hm
  · cases hm
  · rename_i hn
    split at hm
    · exact hi _ (at0_mem hn) m hm
    · rw [List.mem_singleton] at hm
      omega
theorem Inn.all {h : List GN} (hi : Inn h) (l : List Int) : ∀ p ∈ allOf h l, 0 ≤ p ∧ p < (h.length : Int) := fun p hp => by
  rw [allOf_mem] at hp
  obtain ⟨n, _, hp⟩ := hp
  exact hi.mem n p hp
theorem Inn.joined {h : List GN} (hi : Inn h) (l : List Int) : Inn (joinedG h l) := by
  unfold joinedG
  split
  · exact hi
  · exact hi.push (hi.all l)
theorem Inn.left {h : List GN} (hi : Inn h) (n : Int) (l : List Int) : Inn (leftG h n l) := by
  unfold leftG
  split
  · exact hi
  split
  · exact hi
  · exact hi.joined l
theorem fair_push {h : List GN} (hf : Fair h) {x : GN} (h1 : h.length + 1 ≤ 1000000) (h2 : x.l.length ≤ 1000000 ∧ x.keys.length ≤ 1000000) : Fair (h ++ [x]) := ⟨by simp; omega, fun y hy => by
  rcases List.mem_append.1 hy with hy | hy
  · exact hf.2 y hy
  · rw [List.mem_singleton] at hy
    subst hy
    exact h2⟩
theorem fair_joined {h : List GN} (hf : Fair h) (hi : Inn h) (h1 : h.length + 1 ≤ 1000000) (l : List Int) : Fair (joinedG h l) := by
  unfold joinedG
  split
  · exact hf
  · refine fair_push hf h1 ⟨?_, by simp⟩
    have := nodup_bound (allOf_nodup h l) (hi.all l)
    simp
    omega
theorem joined_len {h : List GN} {l : List Int} : h.length ≤ (joinedG h l).length ∧ (joinedG h l).length ≤ h.length + 1 := by
  unfold joinedG
  split <;> simp
theorem left_len {h : List GN} {n : Int} {l : List Int} : h.length ≤ (leftG h n l).length ∧ (leftG h n l).length ≤ h.length + 1 := by
  unfold leftG
  split
  · simp
  split
  · simp
  · exact joined_len
theorem fair_left {h : List GN} (hf : Fair h) (hi : Inn h) (h1 : h.length + 1 ≤ 1000000) (n : Int) (l : List Int) : Fair (leftG h n l) := by
  unfold leftG
  split
  · exact hf
  split
  · exact hf
  · exact fair_joined hf hi h1 l
theorem foldN_ok {g : List GN} {key : Str} {sh : GN} {one : Int → BB} (hsh : sh.keys = [] ∧ sh.l = []) : ∀ {l : List Int} {s : List GN × List Int × List Int}, Fair s.1 → Inn s.1 → s.1.length + l.length ≤ 1000000 → Fair (l.foldl (stepN g key sh one) s).1 ∧ Inn (l.foldl (stepN g key sh one) s).1
  | [], s, h1, h2, _ => ⟨h1, h2⟩
  | m :: l, s, h1, h2, h3 => by
    rw [List.foldl_cons]
    rw [List.length_cons] at h3
    have : (stepN g key sh one s m).1 = s.1 ∨ (stepN g key sh one s m).1 = s.1 ++ [sh] := by
      unfold stepN
      split
      · split
        · exact .inr rfl
        · exact .inl rfl
      · exact .inl rfl
    rcases this with e | e
    · exact foldN_ok hsh (by rw [e]; exact h1) (by rw [e]; exact h2) (by rw [e]; omega)
    · exact foldN_ok hsh (by rw [e]; exact fair_push h1 (by omega) (by simp [hsh])) (by rw [e]; exact h2.push (by simp [hsh])) (by rw [e]; simp; omega)
theorem fin0t {H G : Heap} {W : List Nat} {es : List (List EV)} {k : Cap} {r : List EV} (hk : ∀ a, k = .tok a → H.length ≤ a) (hr : mapO (frzV G H.length none freezeDepth) r = some r) : ∃ k', (∀ a, k' = .tok a → H.length ≤ a) ∧ (finishE 0 H G W (.tup (.fz es k :: r))).1 = .tup (.fz es k' :: r) ∧ ∀ x ∈ (finishE 0 H G W (.tup (.fz es k :: r))).2.2, x ∈ W ∧ x < H.length := by
  cases hw : W.filter (· < H.length) with
  | nil =>
    refine ⟨.no, fun a e => (by cases e), ?_, ?_⟩
    · rw [finish0 hw, frzT_tup]
      simp only [mapO, frzV_far hk, hr]
    · rw [finish0 hw, frzT_tup]
      simp only [mapO, frzV_far hk, hr]
      intro x hx
      cases hx
  | cons w ws =>
    refine ⟨k, hk, by rw [finish0_w hw], ?_⟩
    rw [finish0_w hw]
    intro x hx
    dsimp only at hx
    rw [← hw] at hx
    have := List.mem_filter.1 hx
    exact ⟨this.1, by simpa using this.2⟩

theorem narrowed_ok {g : List GN} (hg : Good g) (hc : checkG g = 0) (kg : Cap) (key : Str) (sh : GN) (hsh : sh.keys = [] ∧ sh.l = []) (tb : List (Int × Nat)) (leaf : Int → BB) (hone : NSpec g kg key sh tb 74 (oneF g leaf (deepF g leaf g.length)) g.length (inG g)) (H : Heap) (o t : Nat) (dv : EV) (n : Int) (hp : NP g kg key sh tb o t [] dv [] H) :
    CallW ep dQ 48 [.ptr o 0, .int .i64 n] H fun v H' W => ∃ k', (∀ x, k' = .tok x → H.length ≤ x) ∧ (∀ x ∈ W, x = o) ∧
      v = if big (narH g key sh (narV g leaf) n) then .tup [.fz [] k', .int .i64 0, .int .i64 0, .int .i64 5] else .tup [.fz (nodes (narH g key sh (narV g leaf) n)) k', .int .i64 (narY g key sh (narV g leaf) n), .int .i64 (narN g key sh (narV g leaf) n), .int .i64 0] := by
  have hlt : o < H.length := (List.getElem?_eq_some_iff.1 hp.obj).1
  have ho := app_get hp.obj
  unfold nwCells at ho
  have hm := fun G' => (members_ok g kg n G' hg.fair).val
  have hgl := (check_ok0 hc).1
  obtain ⟨k1, H1, hcp, ho1, hl1, hg1, hn1⟩ := copy_own g kg (H ++ [.cells [.fz [] .tight, .fz [] .tight]]) hg.fair
  have hcpv := hcp.val
  have hl01 : H.length + 1 ≤ H1.length := by simpa using hg1.1
  have hH1 : ∀ y < H.length + 1, H1[y]? = (H ++ [EO.cells [.fz [] .tight, .fz [] .tight]])[y]? := fun y hy => hg1.2 y (by simpa using hy) (by simp)
  have hnp1 : NP g kg key sh tb o t [] dv [] H1 := by
    have h2 := hp.app [EO.cells [.fz [] .tight, .fz [] .tight]]
    have ht := (List.getElem?_eq_some_iff.1 hp.tab).1
    exact ⟨by rw [hH1 o (by omega)]; exact h2.obj, by rw [hH1 t (by omega)]; exact h2.tab, fun e => absurd rfl e⟩
  have ho1' := hnp1.obj
  unfold nwCells at ho1'
  have hml := members_small hc n
  have hstart : NW H o t g kg key sh tb (g.length, k1) (0, .tight) (0, .tight) [.fz [] .tight, .fz [] .tight] H1 [] :=
    ⟨⟨by omega, fun x hx hn => by rw [hH1 x (by omega), List.getElem?_append_left hx]⟩, fun x hx => (by cases hx), ⟨dv, hnp1⟩, by rw [hH1 _ (by omega)]; simp, ⟨ho1, trivial, trivial, fun a e f => (by cases f), fun a e f => (by cases f), fun a e f => (by cases f), fun a e => by have := hn1 a e; simp at this; omega, fun a e => (by cases e), fun a e => (by cases e)⟩⟩
  have hln := fun i => foldN_len (g := g) (key := key) (sh := sh) (one := narV g leaf) (l := (members g n).take i) (s := (g, [], []))
  refine CallW.body rfl fn_48 (by unfold Tryd.f48; rfl) (by rfl) (by unfold Tryd.f48; simp) ?_
  unfold Tryd.f48
  simp (config := { contextual := true, maxSteps := 1000000 }) [-Int.not_le, -Int.not_lt, -Nat.not_le, -Nat.not_lt, ↓ho, hcpv, hm, ↓ho1']
  refine LoopI.inv (fun s : Nat × Cap × Cap × Cap × Heap => [(0, .ptr o 0), (1, .int .i64 n), (4, .fz (nodes (foldN g key sh (narV g leaf) ((members g n).take s.1)).1) s.2.1), (8, .ptr H.length 0), (22, .fz (ints (members g n)) .no), (23, .int .i64 (members g n).length), (24, .int .i64 s.1)]) (fun s => s.2.2.2.2)
    (fun s W => s.1 ≤ (members g n).length ∧ NW H o t g kg key sh tb ((foldN g key sh (narV g leaf) ((members g n).take s.1)).1.length, s.2.1) ((foldN g key sh (narV g leaf) ((members g n).take s.1)).2.1.length, s.2.2.1) ((foldN g key sh (narV g leaf) ((members g n).take s.1)).2.2.length, s.2.2.2.1) [.fz (ints (foldN g key sh (narV g leaf) ((members g n).take s.1)).2.1) s.2.2.1, .fz (ints (foldN g key sh (narV g leaf) ((members g n).take s.1)).2.2) s.2.2.2.1] s.2.2.2.2 W) (fun s => (members g n).length - s.1) (0, k1, .tight, .tight, H1) (by simp [foldN]; exact hstart) ?_
  rintro ⟨i, kh, ky, kn, G⟩ W ⟨hi, hN⟩
  dsimp only at hi hN
  have hln := hln i
  have hw := wrap_succ (i := i) (by omega)
  by_cases hi' : i < (members g n).length
  · have hstep := foldN_take (g := g) (key := key) (sh := sh) (one := narV g leaf) hi'
    have hS : foldN g key sh (narV g leaf) ((members g n).take i) = List.foldl (stepN g key sh (narV g leaf)) (g, [], []) ((members g n).take i) := rfl
    rw [← hS] at hln
    clear hS
    generalize foldN g key sh (narV g leaf) ((members g n).take i) = S at hN hln hstep ⊢
    obtain ⟨hh, ly, ln⟩ := S
    have hlt0 : ((members g n).take i).length = i := by rw [List.length_take]; omega
    simp only [List.length_nil, Nat.zero_add] at hln
    dsimp only at hN
    have hmi := hg.mem n _ (List.getElem_mem hi')
    obtain ⟨m, hme⟩ : ∃ m, m = (members g n)[i] := ⟨_, rfl⟩
    rw [← hme] at hmi hstep
    obtain ⟨j, rfl⟩ : ∃ j : Nat, m = j := ⟨m.toNat, by have := hmi.1; omega⟩
    have hjl : j < g.length := by have := hmi.2; omega
    have hat := at0_nat hjl
    obtain ⟨dv', hnp⟩ := hN.np
    obtain ⟨v, Hc, W1, hcl, hq⟩ := hone G o t [] .tight dv' [] j (by simp) (by simp) (by simp) hmi hnp
    have hv := hq.val
    subst hv
    have hcv := hcl.val
    have hnv : (oneF g leaf (deepF g leaf g.length) [] [] j).1 = narV g leaf j := rfl
    simp only [hnv, ints_nil] at hcv
    have hNc := hN.call hlt hnp hq
    rcases hb : narV g leaf j with ⟨b1, b2⟩
    have hNa := hNc.app hlt [.cells [.bool b1, .bool b2]] [Hc.length] (by have := hNc.lt; simp; omega)
    obtain ⟨GA, hGA⟩ : ∃ GA, GA = Hc ++ [.cells [.bool b1, .bool b2]] := ⟨_, rfl⟩
    rw [← hGA] at hNa
    have hxA : GA[Hc.length]? = some (.cells [.bool b1, .bool b2]) := by rw [hGA]; simp
    have hcA := hNa.cel
    have hss := set_same hxA
    obtain ⟨dvA, hnpA⟩ := hNa.np
    have hoA := hnpA.obj
    unfold nwCells at hoA
    have hHl := hNc.lt
    have close : ∀ (S' : List GN × List Int × List Int) (kh' ky' kn' : Cap) (G' : Heap) (W' : List Nat), stepN g key sh (narV g leaf) (hh, ly, ln) j = S' → NW H o t g kg key sh tb (S'.1.length, kh') (S'.2.1.length, ky') (S'.2.2.length, kn') [.fz (ints S'.2.1) ky', .fz (ints S'.2.2) kn'] G' (W ++ W') →
        ∃ a, (members g n).length - a < (members g n).length - i ∧ ∃ a_1 a_2 a_3 b, (a ≤ (members g n).length ∧ NW H o t g kg key sh tb ((foldN g key sh (narV g leaf) (List.take a (members g n))).1.length, a_1) ((foldN g key sh (narV g leaf) (List.take a (members g n))).2.1.length, a_2) ((foldN g key sh (narV g leaf) (List.take a (members g n))).2.2.length, a_3) [.fz (ints (foldN g key sh (narV g leaf) (List.take a (members g n))).2.1) a_2, .fz (ints (foldN g key sh (narV g leaf) (List.take a (members g n))).2.2) a_3] b (W ++ W')) ∧ G' = b ∧ (nodes S'.1 = nodes (foldN g key sh (narV g leaf) (List.take a (members g n))).1 ∧ kh' = a_1) ∧ (i : Int) + 1 = (a : Int) := by
      intro S' kh' ky' kn' G' W' e h
      refine ⟨i + 1, by omega, kh', ky', kn', G', ⟨by omega, ?_⟩, rfl, ⟨?_, rfl⟩, by simp⟩
      · rw [hstep, e]; exact h
      · rw [hstep, e]
    cases b2
    · cases b1
      · simp (config := { contextual := true, maxSteps := 1000000 }) [-Int.not_le, -Int.not_lt, -Nat.not_le, -Nat.not_lt, hw, hi', ← hme, hcv, hb, ← hGA, hss, ↓hxA, ↓hcA, ↓hoA]
        refine close (hh, ly, ln) kh ky kn GA _ (by simp [stepN, hb]) (hNa.congr fun x => by simp [or_assoc])
      · by_cases hd : g[j].kind = 1 ∧ key = [] ∧ sh.kind ≠ 7
        · obtain ⟨d1, d2, d3⟩ := hd
          subst d2
          obtain ⟨GC, kh', hapC, hkC, hNC⟩ := hNa.grow1 hlt rfl (by omega) hsh
          obtain ⟨GB, ky', hap, hcB, hkB, hNB⟩ := hNC.grow2 hlt rfl (by omega) (hh.length : Int)
          have hxC := hkC _ _ hxA
          have hcC := hkC _ _ hcA
          simp (config := { contextual := true, maxSteps := 1000000 }) [-Int.not_le, -Int.not_lt, -Nat.not_le, -Nat.not_lt, hw, hi', ← hme, hcv, hb, ← hGA, hss, ↓hxA, ↓hcA, ↓hoA, hjl, d1, d3, hap, hapC, ↓hxC, ↓hcC, ↓hcB]
          exact close (hh ++ [sh], ly ++ [(hh.length : Int)], ln) kh' ky' kn _ _ (by simp [stepN, hb, hat, d1, d3]) (by simpa using (hNB _).congr fun x => by simp [or_assoc])
        · obtain ⟨GB, ky', hap, hcB, hkB, hNB⟩ := hNa.grow2 hlt rfl (by omega) (j : Int)
          by_cases d1 : g[j].kind = 1
          · by_cases d2 : key = []
            · subst d2
              have d3 : sh.kind = 7 := by
                by_cases d3 : sh.kind = 7
                · exact d3
                · exact absurd ⟨d1, rfl, d3⟩ hd
              simp (config := { contextual := true, maxSteps := 1000000 }) [-Int.not_le, -Int.not_lt, -Nat.not_le, -Nat.not_lt, hw, hi', ← hme, hcv, hb, ← hGA, hss, ↓hxA, ↓hcA, ↓hoA, hjl, d1, d3, hap, ↓hcB]
              exact close (hh, ly ++ [(j : Int)], ln) kh ky' kn _ _ (by simp [stepN, hb, hat, d1, d3]) (by simpa using (hNB _).congr fun x => by simp [or_assoc])
            · simp (config := { contextual := true, maxSteps := 1000000 }) [-Int.not_le, -Int.not_lt, -Nat.not_le, -Nat.not_lt, hw, hi', ← hme, hcv, hb, ← hGA, hss, ↓hxA, ↓hcA, ↓hoA, hjl, d1, d2, hap, ↓hcB]
              exact close (hh, ly ++ [(j : Int)], ln) kh ky' kn _ _ (by simp [stepN, hb, hat, d1, d2]) (by simpa using (hNB _).congr fun x => by simp [or_assoc])
          · simp (config := { contextual := true, maxSteps := 1000000 }) [-Int.not_le, -Int.not_lt, -Nat.not_le, -Nat.not_lt, hw, hi', ← hme, hcv, hb, ← hGA, hss, ↓hxA, ↓hcA, ↓hoA, hjl, d1, hap, ↓hcB]
            exact close (hh, ly ++ [(j : Int)], ln) kh ky' kn _ _ (by simp [stepN, hb, hat, d1]) (by simpa using (hNB _).congr fun x => by simp [or_assoc])
    · obtain ⟨GL, kn', hapL, hcL, hkL, hNL⟩ := hNa.grow3 hlt rfl (by omega) (j : Int)
      have hND := hNL [.fz (ints ly) ky, .fz (ints (ln ++ [(j : Int)])) kn']
      have hxL := hkL _ _ hxA
      obtain ⟨GD, hGD⟩ : ∃ GD, GD = GL.set H.length (.cells [.fz (ints ly) ky, .fz (ints (ln ++ [(j : Int)])) kn']) := ⟨_, rfl⟩
      rw [← hGD] at hND
      have hxD : GD[Hc.length]? = some (.cells [.bool b1, .bool true]) := by rw [hGD, List.getElem?_set, if_neg (by omega)]; exact hxL
      have hcD := hND.cel
      obtain ⟨dvD, hnpD⟩ := hND.np
      have hoD := hnpD.obj
      unfold nwCells at hoD
      have hND2 : NW H o t g kg key sh tb (hh.length, kh) (ly.length, ky) ((ln ++ [(j : Int)]).length, kn') [.fz (ints ly) ky, .fz (ints (ln ++ [(j : Int)])) kn'] GD (W ++ W1 ++ [Hc.length] ++ (killW kn ++ [H.length])) := by simpa using hND
      cases b1
      · simp (config := { contextual := true, maxSteps := 1000000 }) [-Int.not_le, -Int.not_lt, -Nat.not_le, -Nat.not_lt, hw, hi', ← hme, hcv, hb, ← hGA, hss, ↓hxA, ↓hcA, ↓hoA, hapL, ↓hcL, ← hGD, ↓hxD, ↓hcD, ↓hoD]
        refine close (hh, ly, ln ++ [(j : Int)]) kh ky kn' GD _ (by simp [stepN, hb]) (hND2.congr fun x => by simp [or_assoc])
      · by_cases hd : g[j].kind = 1 ∧ key = [] ∧ sh.kind ≠ 7
        · obtain ⟨d1, d2, d3⟩ := hd
          subst d2
          obtain ⟨GC, kh', hapC, hkC, hNC⟩ := hND2.grow1 hlt rfl (by omega) hsh
          obtain ⟨GB, ky', hap, hcB, hkB, hNB⟩ := hNC.grow2 hlt rfl (by omega) (hh.length : Int)
          have hxC := hkC _ _ hxD
          have hcC := hkC _ _ hcD
          simp (config := { contextual := true, maxSteps := 1000000 }) [-Int.not_le, -Int.not_lt, -Nat.not_le, -Nat.not_lt, hw, hi', ← hme, hcv, hb, ← hGA, hss, ↓hxA, ↓hcA, ↓hoA, hapL, ↓hcL, ← hGD, ↓hxD, ↓hcD, ↓hoD, hjl, d1, d3, hap, hapC, ↓hxC, ↓hcC, ↓hcB]
          exact close (hh ++ [sh], ly ++ [(hh.length : Int)], ln ++ [(j : Int)]) kh' ky' kn' _ _ (by simp [stepN, hb, hat, d1, d3]) (by simpa using (hNB _).congr fun x => by simp [or_assoc])
        · obtain ⟨GB, ky', hap, hcB, hkB, hNB⟩ := hND2.grow2 hlt rfl (by omega) (j : Int)
          by_cases d1 : g[j].kind = 1
          · by_cases d2 : key = []
            · subst d2
              have d3 : sh.kind = 7 := by
                by_cases d3 : sh.kind = 7
                · exact d3
                · exact absurd ⟨d1, rfl, d3⟩ hd
              simp (config := { contextual := true, maxSteps := 1000000 }) [-Int.not_le, -Int.not_lt, -Nat.not_le, -Nat.not_lt, hw, hi', ← hme, hcv, hb, ← hGA, hss, ↓hxA, ↓hcA, ↓hoA, hapL, ↓hcL, ← hGD, ↓hxD, ↓hcD, ↓hoD, hjl, d1, d3, hap, ↓hcB]
              exact close (hh, ly ++ [(j : Int)], ln ++ [(j : Int)]) kh ky' kn' _ _ (by simp [stepN, hb, hat, d1, d3]) (by simpa using (hNB _).congr fun x => by simp [or_assoc])
            · simp (config := { contextual := true, maxSteps := 1000000 }) [-Int.not_le, -Int.not_lt, -Nat.not_le, -Nat.not_lt, hw, hi', ← hme, hcv, hb, ← hGA, hss, ↓hxA, ↓hcA, ↓hoA, hapL, ↓hcL, ← hGD, ↓hxD, ↓hcD, ↓hoD, hjl, d1, d2, hap, ↓hcB]
              exact close (hh, ly ++ [(j : Int)], ln ++ [(j : Int)]) kh ky' kn' _ _ (by simp [stepN, hb, hat, d1, d2]) (by simpa using (hNB _).congr fun x => by simp [or_assoc])
          · simp (config := { contextual := true, maxSteps := 1000000 }) [-Int.not_le, -Int.not_lt, -Nat.not_le, -Nat.not_lt, hw, hi', ← hme, hcv, hb, ← hGA, hss, ↓hxA, ↓hcA, ↓hoA, hapL, ↓hcL, ← hGD, ↓hxD, ↓hcD, ↓hoD, hjl, d1, hap, ↓hcB]
            exact close (hh, ly ++ [(j : Int)], ln ++ [(j : Int)]) kh ky' kn' _ _ (by simp [stepN, hb, hat, d1]) (by simpa using (hNB _).congr fun x => by simp [or_assoc])
  · have hie : i = (members g n).length := by omega
    subst hie
    rw [List.take_length] at hN hln ⊢
    have hnG : foldN g key sh (narV g leaf) (members g n) = narG g key sh (narV g leaf) n := rfl
    have hfi := foldN_ok (g := g) (key := key) (one := narV g leaf) hsh (l := members g n) (s := (g, [], [])) hg.fair (inn_of hc) (by simp; omega)
    have hfi2 : Fair (narG g key sh (narV g leaf) n).1 ∧ Inn (narG g key sh (narV g leaf) n).1 := hfi
    have hln2 : (narG g key sh (narV g leaf) n).1.length ≤ g.length + (members g n).length ∧ (narG g key sh (narV g leaf) n).2.1.length ≤ [].length + (members g n).length ∧ (narG g key sh (narV g leaf) n).2.2.length ≤ [].length + (members g n).length := hln
    rw [hnG] at hN ⊢
    have hY : narY g key sh (narV g leaf) n = leftN (narG g key sh (narV g leaf) n).1 n (narG g key sh (narV g leaf) n).2.1 := rfl
    have hNn : narN g key sh (narV g leaf) n = leftN (leftG (narG g key sh (narV g leaf) n).1 n (narG g key sh (narV g leaf) n).2.1) n (narG g key sh (narV g leaf) n).2.2 := rfl
    have hHh : narH g key sh (narV g leaf) n = leftG (leftG (narG g key sh (narV g leaf) n).1 n (narG g key sh (narV g leaf) n).2.1) n (narG g key sh (narV g leaf) n).2.2 := rfl
    rw [hY, hNn, hHh]
    generalize narG g key sh (narV g leaf) n = S at hN hfi2 hln2 ⊢
    obtain ⟨hh, ly, ln⟩ := S
    simp only [List.length_nil, Nat.zero_add] at hln2
    dsimp only at hN hfi2 hln2 ⊢
    obtain ⟨hf2, hi2⟩ := hfi2
    obtain ⟨v1, G1, W1, hc1, k', rfl, hG1⟩ := left_ok hh kh ky n ly G hf2 (by omega) (by omega) hN.toks.o1 (fun a e => hN.toks.o1.lt e) (fun n' _ => hi2.mem n') (fun n' _ => members_len hf2 n')
    have hlen1 := left_len (h := hh) (n := n) (l := ly)
    have hf3 := fair_left hf2 hi2 (by omega) n ly
    have hi3 := hi2.left n ly
    obtain ⟨v2, G2, W2, hc2, k2, rfl, hG2⟩ := left_ok (leftG hh n ly) k' kn n ln G1 hf3 (by omega) (by omega) hG1.own (fun a e => hG1.own.lt e) (fun n' _ => hi3.mem n') (fun n' _ => members_len hf3 n')
    have hc1v := hc1.val
    have hc2v := hc2.val
    have hcel := hN.cel
    have hcel1 : G1[H.length]? = some (.cells [.fz (ints ly) ky, .fz (ints ln) kn]) := by
      rw [hG1.grw.2 _ hN.lt (fun e => ?_)]
      · exact hcel
      · rcases hG1.wrt _ e with e | e
        · have := hN.toks.o1
          subst e
          rw [Own, hcel] at this
          injection this with this
          cases this
        · have := hN.lt
          omega
    have hk' : ∀ a, k' = .tok a → H.length ≤ a := fun a e => hG1.new.elim (fun h => hN.toks.b1 a (h ▸ e)) fun ⟨a', h1, h2⟩ => by
      rw [h1] at e
      injection e with e
      have := hN.lt
      omega
    have hGl : G.length ≤ G1.length := hG1.grw.1
    have hk2 : ∀ a, k2 = .tok a → H.length ≤ a := fun a e => hG2.new.elim (fun h => hk' a (h ▸ e)) fun ⟨a', h1, h2⟩ => by
      rw [h1] at e
      injection e with e
      have := hN.lt
      omega
    have hWa : ∀ x ∈ W ++ (W1 ++ W2), x < H.length → x = o := fun x hx hxl => by
      rcases List.mem_append.1 hx with hx | hx
      · exact hN.wrt x hx hxl
      rcases List.mem_append.1 hx with hx | hx
      · rcases hG1.wrt x hx with e | e
        · have := hN.toks.b1 x e; omega
        · have := hN.lt; omega
      · rcases hG2.wrt x hx with e | e
        · have := hk' x e; omega
        · have := hN.lt; omega
    by_cases hbig : 2000 < (leftG (leftG hh n ly) n ln).length
    · have hbig' : (2000 : Int) < (leftG (leftG hh n ly) n ln).length := by omega
      obtain ⟨k3, hk3, hv3, hw3⟩ := fin0t (H := H) (G := G2) (W := W ++ (W1 ++ W2)) (es := []) (k := .tight) (r := [.int .i64 0, .int .i64 0, .int .i64 5]) (fun a e => (by cases e)) rfl
      simp (config := { contextual := true, maxSteps := 1000000 }) [-Int.not_le, -Int.not_lt, -Nat.not_le, -Nat.not_lt, hw, hi', hc1v, hc2v, ↓hcel, ↓hcel1, hbig, hbig']
      refine ⟨k3, hk3, fun x hx => hWa x (hw3 x hx).1 (hw3 x hx).2, ?_⟩
      rw [hv3, if_pos (by simp [big, hbig])]
    · have hbig' : ¬ (2000 : Int) < (leftG (leftG hh n ly) n ln).length := by omega
      obtain ⟨k3, hk3, hv3, hw3⟩ := fin0t (H := H) (G := G2) (W := W ++ (W1 ++ W2)) (es := nodes (leftG (leftG hh n ly) n ln)) (k := k2) (r := [.int .i64 (leftN hh n ly), .int .i64 (leftN (leftG hh n ly) n ln), .int .i64 0]) hk2 rfl
      simp (config := { contextual := true, maxSteps := 1000000 }) [-Int.not_le, -Int.not_lt, -Nat.not_le, -Nat.not_lt, hw, hi', hc1v, hc2v, ↓hcel, ↓hcel1, hbig, hbig']
      refine ⟨k3, hk3, fun x hx => hWa x (hw3 x hx).1 (hw3 x hx).2, ?_⟩
      rw [hv3, if_neg (by simp [big]; omega)]
end Go.Ev
end
