import Derived.Test.YtkmfjlfejdoehaaGreatQ10
import Derived.Test.YtkmfjlfejdoehaaGreatQ7
/- Texts, one behind the other. -/
set_option linter.unusedVariables false
set_option linter.unusedSimpArgs false
set_option maxRecDepth 8000
set_option maxHeartbeats 4000000
namespace Go.Proofs.YtkmfjlfejdoehaaGreat
open Go.Eng Go.RowKit
def lastO (p : Msg → Bool) (l : List Msg) : Option Msg := l.foldl (fun a m => if p m = true then some m else a) none
def ofO : Option Msg → Msg × Bool
  | none => (msg0, false)
  | some m => (m, true)
theorem lastO_fold {p : Msg → Bool} : ∀ (l : List Msg) (a : Option Msg), ofO (l.foldl (fun a m => if p m = true then some m else a) a) = l.foldl (fun a m => if p m = true then (m, true) else a) (ofO a)
  | [], a => rfl
  | m :: l, a => by
    rw [List.foldl_cons, List.foldl_cons, lastO_fold l]
    cases p m <;> rfl
theorem lastO_W (p : Msg → Bool) (l : List Msg) : ofO (lastO p l) = lastW p l := lastO_fold l none
theorem lastO_snoc (p : Msg → Bool) (l : List Msg) (m : Msg) : lastO p (l ++ [m]) = if p m = true then some m else lastO p l := by
  rw [lastO, List.foldl_append]; rfl
def zeroO : Eng.Obj := .box [.i .u8 0, .s [], .i .i64 0, .i .i64 0, .bl false, .s []]
def laM : Option Msg → Eng.Obj
  | none => zeroO
  | some m => msgO m
def laB : Option Msg → V
  | none => .bl false
  | some _ => .bl true
def lwF (key : List UInt8) (ls : List (List Msg)) (k : Nat) : Option Msg := lastO (lastP key) ((ordL ls).take k)
def laS (key : List UInt8) (ls : List (List Msg)) (o : Option Msg) : St :=
  ⟨[(3, .ptr 0 0), (4, .ptr 1 0), (6, .ptr 2 0), (7, .ptr 3 0)], [(0, .box [.s key]), (1, zeroO), (2, laM o), (3, .box [laB o]), (4, .box [.sl (.slice MsgT) ls])]⟩
def laI (key : List UInt8) (ls : List (List Msg)) (k : Nat) : St := laS key ls (lwF key ls k)
def laT (key : List UInt8) (ls : List (List Msg)) (o : Option Msg) (m : Msg) : St :=
  ⟨[(3, .ptr 0 0), (4, .ptr 1 0), (6, .ptr 2 0), (7, .ptr 3 0), (8, .ptr 5 0)], [(0, .box [.s key]), (1, zeroO), (2, laM o), (3, .box [laB o]), (4, .box [.sl (.slice MsgT) ls]), (5, msgO m)]⟩
def laA (key : List UInt8) (ls : List (List Msg)) (k : Nat) : St := laT key ls (lwF key ls k) ((ordL ls).getD k msg0)
theorem laS_ok (key : List UInt8) (ls : List (List Msg)) (o : Option Msg) : StOk [0, 1, 2, 3, 4] (laS key ls o) := by cases o <;> exact ⟨rfl, Nat.le_of_ble_eq_true rfl, rfl, rfl, rfl⟩
theorem laT_ok (key : List UInt8) (ls : List (List Msg)) (o : Option Msg) (m : Msg) : StOk [0, 1, 2, 3, 4] (laT key ls o m) := by cases o <;> exact ⟨rfl, Nat.le_of_ble_eq_true rfl, rfl, rfl, rfl⟩
def laKeep : List (Nat × List Nat) := [(3000000, [0, 1, 2, 3, 4]), (3, [3, 4, 6, 7, 8]), (4, [3, 4, 6, 7, 8, 26]), (5, [3, 4, 6, 7])]
def sLast : PSpec := sLastR
theorem fLast : FnOk Tryz.prog 39 := ⟨_, Tryz.func39, by decide, rfl⟩
theorem pLast : PSound Tryz.prog 39 sLast := by
  refine psoundC fun w F xs vals hF hv hpre => ?_
  have hg := argsV_good _ _ _ hv
  obtain ⟨ls, key, ⟨⟩⟩ := xs
  change List (List Msg) at ls
  change List UInt8 at key
  change ls.length ≤ 100 ∧ ls.flatten.length ≤ 50000 at hpre
  refine (callsIn_wide (n := 10)).1 (callsIn_of_wp_marks Tryz.func39 rfl trivial ?_)
  have hvl := RVs_len hv
  have r0 := start_rel (N := 30) (RelH.at Tryz.prog w F hF) (fun id h => h.elim) (by rw [hvl]; exact Nat.le_of_ble_eq_true rfl) hv
  change RelT _ _ ⟨[(0, .sl (.slice MsgT) ls), (1, .s key)], []⟩ _ _ _ at r0
  refine seq_pre (C := Cx.at Tryz.prog w F) (keep := [(0, [0, 3, 4])]) (T := tab) (S := (spOf [(104, iUps)])) (st1 := ⟨[(0, .sl (.slice MsgT) ls), (3, .ptr 0 0), (4, .ptr 1 0)], [(0, .box [.s key]), (1, zeroO)]⟩) rfl tabOk (spCons (.inl ⟨pUps, fUps⟩) spNil) (by kernel_rfl) (by kernel_rfl) ?v1 r0 fun a1 w1 g1 r1 => ?_
  case v1 =>
    refine Ev.out ?_
    repeat' (first | ((with_reducible refine Ev.mk ?_); conv => whnf) | (with_reducible refine And.intro ?_ ?_) | (intro h))
    exact Leaf.mk rfl
  refine seq_pre (C := Cx.at Tryz.prog w F) (keep := [(1, [0, 3, 4, 6, 7])]) (T := tab) (S := (spOf [(104, iUps)])) (st1 := ⟨[(0, .sl (.slice MsgT) ls), (3, .ptr 0 0), (4, .ptr 1 0), (6, .ptr 2 0), (7, .ptr 3 0)], [(0, .box [.s key]), (1, zeroO), (2, zeroO), (3, .box [.bl false])]⟩) rfl tabOk (spCons (.inl ⟨pUps, fUps⟩) spNil) (by kernel_rfl) (by kernel_rfl) ?v1 r1 fun a2 w2 g2 r2 => ?_
  case v1 =>
    refine Ev.out ?_
    repeat' (first | ((with_reducible refine Ev.mk ?_); conv => whnf) | (with_reducible refine And.intro ?_ ?_) | (intro h))
    exact Leaf.mk rfl
  refine wpIn_seq ?_
  refine seq_pre (C := Cx.at Tryz.prog w F) (keep := [(2, [3, 4, 6, 7, 11])]) (T := tab) (S := (spOf [(104, iUps)])) (st1 := ⟨[(3, .ptr 0 0), (4, .ptr 1 0), (6, .ptr 2 0), (7, .ptr 3 0), (11, .fn 168 [.ptr 4 0])], [(0, .box [.s key]), (1, zeroO), (2, zeroO), (3, .box [.bl false]), (4, .box [.sl (.slice MsgT) ls])]⟩) rfl tabOk (spCons (.inl ⟨pUps, fUps⟩) spNil) (by kernel_rfl) (by kernel_rfl) ?v1 r2 fun a3 w3 g3 r3 => ?_
  case v1 =>
    refine Ev.out ?_
    repeat' (first | ((with_reducible refine Ev.mk ?_); conv => whnf) | (with_reducible refine And.intro ?_ ?_) | (intro h))
    exact Leaf.mk rfl
  clear r0 r1 r2
  refine wpIn_block ?_
  have hlo := ordL_len ls
  refine range_ups (ids := [0, 1, 2, 3, 4]) (keep := laKeep) (kp := [3, 4, 6, 7]) (T := tab) (S := (spOf [(104, iUps), (65, sMCheck.spec (lsOf []))])) rfl rfl (N := 30) rfl tabOk (spCons (.inl ⟨pUps, fUps⟩) (spCons (pOk pMCheck fMCheck (by decide) lsNil) spNil)) (by omega) ?hfl ?hgood (by decide) (by kernel_rfl) (by kernel_rfl) (by kernel_rfl) (by kernel_rfl) (laI key ls) (laA key ls) (fun k => laI key ls (k + 1)) r3 rfl rfl (by kernel_rfl) rfl ?hen ?hE ?okI ?okA ?okB ?hB ?hva ?hvb ?hQ
  case hfl => exact fun l hl => Nat.le_trans (len_flat hl) (by omega)
  case hgood => exact good_ordL fun l hl m hm => (hg.1.2 l hl).2 m hm
  case hen => intro k; rfl
  case hE =>
    intro t v ht
    have := lookN_mem _ _ _ ht
    simp only [laI, laS, List.mem_cons, List.not_mem_nil, or_false, Prod.mk.injEq] at this
    rcases this with ⟨rfl, rfl⟩ | ⟨rfl, rfl⟩ | ⟨rfl, rfl⟩ | ⟨rfl, rfl⟩
    · exact ⟨rfl, 0, by simp, rfl⟩
    · exact ⟨rfl, 1, by simp, rfl⟩
    · exact ⟨rfl, 2, by simp, rfl⟩
    · exact ⟨rfl, 3, by simp, rfl⟩
  case okI => exact fun k => laS_ok _ _ _
  case okA => exact fun k => laT_ok _ _ _ _
  case okB => exact fun k => laS_ok _ _ _
  case hB => intro k; rfl
  case hva =>
    intro k hk
    show vc _ _ _ _ ⟨_ :: (laS key ls (lwF key ls k)).env, (laS key ls (lwF key ls k)).heap⟩ (roundK (laT key ls (lwF key ls k) _))
    generalize lwF key ls k = o
    cases o
    · refine Ev.out ?_
      repeat' (first | ((with_reducible refine Ev.mk ?_); conv => whnf) | (with_reducible refine And.intro ?_ ?_) | (intro h))
      exact Leaf.mk rfl
    · refine Ev.out ?_
      repeat' (first | ((with_reducible refine Ev.mk ?_); conv => whnf) | (with_reducible refine And.intro ?_ ?_) | (intro h))
      exact Leaf.mk rfl
  case hvb =>
    intro k hk
    have hat : lwF key ls (k + 1) = if lastP key ((ordL ls).getD k msg0) = true then some ((ordL ls).getD k msg0) else lwF key ls k := by rw [lwF, take_snoc hk, lastO_snoc]; rfl
    show vc _ _ _ _ (laT key ls (lwF key ls k) _) (roundN _ _ (laS key ls (lwF key ls (k + 1))))
    rw [hat]
    generalize lwF key ls k = o
    generalize (ordL ls).getD k msg0 = m
    cases o
    · refine Ev.out ?_
      repeat' (first | ((with_reducible refine Ev.mk ?_); conv => whnf) | (with_reducible refine And.intro ?_ ?_) | (intro h))
      all_goals (try simp only [decide_eq_true_eq, decide_eq_false_iff_not, beq_iff_eq, bne_iff_ne, beq_eq_false_iff_ne, bne_eq_false_iff_eq, Int.toNat_natCast, ge_iff_le, gt_iff_lt, Bool.not_eq_true', Bool.not_eq_false', Int.not_lt, Int.not_le, ne_eq] at *)
      all_goals (try dsimp only [Ty.den, Ty.dflt, MsgT, sMCheck] at *)
      all_goals (try simp only [eq4, ne4, eq3, ne3, eq2, ne2, Prod.eta, List.length_cons, List.length_nil, List.length_append, Nat.zero_add] at *)
      all_goals (try simp (disch := omega) only [wrap64] at *)
      all_goals try first | exact leafDraw (by kernel_rfl) | exact Leaf.mk trivial | (refine Leaf.mk ?_; omega) | (refine Leaf.mk ?_; unfold maxLen; omega)
      all_goals first
        | exact Leaf.mk trivial
        | (refine Leaf.mk ?_
           rw [if_pos (show lastP key m = true from decide_eq_true ⟨by assumption, by assumption, by assumption⟩)]; rfl)
        | (refine Leaf.mk ?_
           rw [if_neg (show ¬ lastP key m = true from fun hc => by have hc := of_decide_eq_true hc; first | exact absurd hc.1 (by assumption) | exact absurd hc.2.1 (by assumption) | exact absurd hc.2.2 (by assumption))]; rfl)
    · refine Ev.out ?_
      repeat' (first | ((with_reducible refine Ev.mk ?_); conv => whnf) | (with_reducible refine And.intro ?_ ?_) | (intro h))
      all_goals (try simp only [decide_eq_true_eq, decide_eq_false_iff_not, beq_iff_eq, bne_iff_ne, beq_eq_false_iff_ne, bne_eq_false_iff_eq, Int.toNat_natCast, ge_iff_le, gt_iff_lt, Bool.not_eq_true', Bool.not_eq_false', Int.not_lt, Int.not_le, ne_eq] at *)
      all_goals (try dsimp only [Ty.den, Ty.dflt, MsgT, sMCheck] at *)
      all_goals (try simp only [eq4, ne4, eq3, ne3, eq2, ne2, Prod.eta, List.length_cons, List.length_nil, List.length_append, Nat.zero_add] at *)
      all_goals (try simp (disch := omega) only [wrap64] at *)
      all_goals try first | exact leafDraw (by kernel_rfl) | exact Leaf.mk trivial | (refine Leaf.mk ?_; omega) | (refine Leaf.mk ?_; unfold maxLen; omega)
      all_goals first
        | exact Leaf.mk trivial
        | (refine Leaf.mk ?_
           rw [if_pos (show lastP key m = true from decide_eq_true ⟨by assumption, by assumption, by assumption⟩)]; rfl)
        | (refine Leaf.mk ?_
           rw [if_neg (show ¬ lastP key m = true from fun hc => by have hc := of_decide_eq_true hc; first | exact absurd hc.1 (by assumption) | exact absurd hc.2.1 (by assumption) | exact absurd hc.2.2 (by assumption))]; rfl)
  case hQ =>
    intro E W hE hI hd
    have hend : ofO (lwF key ls (ordL ls).length) = lastW (lastP key) (ordL ls) := by rw [lwF, List.take_length, lastO_W]
    have hI : StI _ _ _ _ _ _ (laS key ls (lwF key ls (ordL ls).length)) _ _ := hI
    revert hI hend
    generalize lwF key ls (ordL ls).length = o
    intro hend hI
    cases o
    · refine StI.ends (keep := k39) (T := tab) (S := (spOf [(104, iUps)])) rfl rfl tabOk (spCons (.inl ⟨pUps, fUps⟩) spNil) (by kernel_rfl) (by kernel_rfl) (by kernel_rfl) ?_ hI rfl hd hE
      refine Ev.out ?_
      repeat' (first | ((with_reducible refine Ev.mk ?_); conv => whnf) | (with_reducible refine And.intro ?_ ?_) | (intro h))
      · exact Leaf.mk (by decide +kernel)
      · exact Leaf.mk rfl
      · refine Ev.out ?_
        repeat' (first | ((with_reducible refine Ev.mk ?_); conv => whnf) | (with_reducible refine And.intro ?_ ?_) | (intro h))
        exact Leaf.mk (retLs (u := (msg0, false)) hend)
    · rename_i m
      refine StI.ends (keep := k39) (T := tab) (S := (spOf [(104, iUps)])) rfl rfl tabOk (spCons (.inl ⟨pUps, fUps⟩) spNil) (by kernel_rfl) (by kernel_rfl) (by kernel_rfl) ?_ hI rfl hd hE
      refine Ev.out ?_
      repeat' (first | ((with_reducible refine Ev.mk ?_); conv => whnf) | (with_reducible refine And.intro ?_ ?_) | (intro h))
      · exact Leaf.mk (by decide +kernel)
      · exact Leaf.mk rfl
      · refine Ev.out ?_
        repeat' (first | ((with_reducible refine Ev.mk ?_); conv => whnf) | (with_reducible refine And.intro ?_ ?_) | (intro h))
        exact Leaf.mk (retLs (u := (m, true)) hend)
end Go.Proofs.YtkmfjlfejdoehaaGreat

set_option linter.unusedVariables false
set_option linter.unusedSimpArgs false
set_option maxRecDepth 8000
set_option maxHeartbeats 4000000
namespace Go.Proofs.YtkmfjlfejdoehaaGreat
open Go.Eng
def sRange : PSpec := sRangeR
theorem fRange : FnOk Tryz.prog 47 := ⟨_, Tryz.func47, by decide, rfl⟩
theorem pRange : PSound Tryz.prog 47 sRange := by
  refine psound (T := tab) (S := (spOf [(44, sOrder.spec (lsOf [])), (17, sLOver.spec (lsOf []))])) (keep := k47) (by kernel_rfl) tabOk (spCons (pOk pOrder fOrder (by decide) lsNil) (spCons (pOk pLOver fLOver (by decide) lsNil) spNil)) (by kernel_rfl) Tryz.func47 (by kernel_rfl) (by decide) fun xs hg hp => ?_
  obtain ⟨l, ls, lo, up, ⟨⟩⟩ := xs
  clear hg
  change List Stk at l
  change List (List Msg) at ls
  change List UInt8 at lo up
  change ls.length ≤ 100 ∧ ls.flatten.length ≤ 1000 ∧ l.length ≤ 1000 ∧ (∀ s ∈ l, List.length s.2 ≤ 1000) ∧ RiseK l at hp
  obtain ⟨hp, hf, hl, hs, hr⟩ := hp
  have ho := ordL_len ls
  show vfun tab _ k47 Tryz.f47 [.sl StT l, .sl (.slice MsgT) ls, .s lo, .s up] [] _
  refine Ev.out ?_
  repeat' (first | ((with_reducible refine Ev.mk ?_); conv => whnf) | (with_reducible refine And.intro ?_ ?_) | (intro h))
  all_goals (try simp only [decide_eq_true_eq, decide_eq_false_iff_not, beq_iff_eq, bne_iff_ne, beq_eq_false_iff_ne, bne_eq_false_iff_eq, Int.toNat_natCast, ge_iff_le, gt_iff_lt, Bool.not_eq_true', Bool.not_eq_false', Int.not_lt, Int.not_le, ne_eq] at *)
  all_goals (try dsimp only [Ty.den, Ty.dflt, StT, VerT, LvT, sOrder, sOrderR, sLOver] at *)
  all_goals (try simp only [eq4, ne4, eq3, ne3, eq2, ne2, Prod.eta, List.length_cons, List.length_nil, List.length_append, Nat.zero_add] at *)
  all_goals (try simp (disch := omega) only [wrap64] at *)
  all_goals try first | exact leafDraw (by kernel_rfl) | exact Leaf.mk trivial | (refine Leaf.mk ?_; omega) | (refine Leaf.mk ?_; unfold maxLen; omega)
  all_goals first
    | exact Leaf.mk (show ls.length ≤ 100 ∧ ls.flatten.length ≤ 100000 by omega)
    | exact Leaf.mk (show l.length ≤ 1000 ∧ (ordL ls).length ≤ 1000 ∧ (∀ s ∈ l, List.length s.2 ≤ 1000) ∧ RiseK l from ⟨hl, by omega, hs, hr⟩)
    | exact Leaf.mk rfl
    | skip
def twoL : List (List Msg) := [[(1, [], 1, 5, false, [])], [(0, [107], 1, 0, false, [118])]]
def sTwo18 : PSpec := ⟨[], [⟨false, [.d LvT]⟩], fun _ => True, fun _ => ((twoL, ()), ())⟩
theorem fTwo18 : FnOk Tryz.prog 103 := ⟨_, Tryz.func103, by decide, rfl⟩
theorem pTwo18 : PSound Tryz.prog 103 sTwo18 := by
  refine psound (T := tab) (S := (spOf [])) (keep := k103) (by kernel_rfl) tabOk spNil (by kernel_rfl) Tryz.func103 (by kernel_rfl) (by decide) fun xs hg hp => ?_
  obtain ⟨⟩ := xs
  show vfun tab _ k103 Tryz.f103 [] [] _
  refine Ev.out ?_
  repeat' (first | ((with_reducible refine Ev.mk ?_); conv => whnf) | (with_reducible refine And.intro ?_ ?_) | (intro h))
  all_goals try exact Leaf.mk rfl
  all_goals try exact leafDraw (by kernel_rfl)
  all_goals first
    | (refine Leaf.mk ?_; decide +kernel)
    | skip
def sAwake18 : PSpec := ⟨[], [⟨false, [.d .bool]⟩], fun _ => True, fun _ => ((true, ()), ())⟩
theorem fAwake18 : FnOk Tryz.prog 38 := ⟨_, Tryz.func38, by decide, rfl⟩
theorem pAwake18 : PSound Tryz.prog 38 sAwake18 := by
  refine psound (T := tab) (S := (spOf [(103, sTwo18.spec (lsOf [])), (41, sKey.spec (lsOf [])), (47, sRange.spec (lsOf [])), (39, sLast.spec (lsOf [])), (44, sOrder.spec (lsOf [])), (21, sSSameR.spec (lsOf [])), (49, sClip.spec (lsOf []))])) (keep := k38) (by kernel_rfl) tabOk (spCons (pOk pTwo18 fTwo18 (by decide) lsNil) (spCons (pOk pKey fKey (by decide) lsNil) (spCons (pOk pRange fRange (by decide) lsNil) (spCons (pOk pLast fLast (by decide) lsNil) (spCons (pOk pOrder fOrder (by decide) lsNil) (spCons (pOk pSSameR fSSameR (by decide) lsNil) (spCons (pOk pClip fClip (by decide) lsNil) spNil))))))) (by kernel_rfl) Tryz.func38 (by kernel_rfl) (by decide) fun xs hg hp => ?_
  obtain ⟨⟩ := xs
  show vfun tab _ k38 Tryz.f38 [] [] _
  refine Ev.out ?_
  repeat' (first | ((with_reducible refine Ev.mk ?_); conv => whnf) | (with_reducible refine And.intro ?_ ?_) | (intro h; first | exact absurd h (by decide +kernel) | skip))
  all_goals first
    | exact Leaf.mk trivial
    | exact leafDraw (by kernel_rfl)
    | (refine Leaf.mk ?_; change _ ∧ _; decide +kernel)
    | (refine Leaf.mk ?_; change (_ : Nat) ≤ _; decide +kernel)
    | (refine Leaf.mk ?_; decide +kernel)
    | (refine Leaf.mk ?_; change _ ∧ _ ∧ _ ∧ _ ∧ List.Pairwise _ _; decide +kernel)
    | exact Leaf.mk rfl
    | skip
end Go.Proofs.YtkmfjlfejdoehaaGreat

set_option linter.unusedVariables false
set_option linter.unusedSimpArgs false
set_option maxRecDepth 8000
set_option maxHeartbeats 4000000
namespace Go.Proofs.YtkmfjlfejdoehaaGreat
open Go.Eng
theorem fsameS {a : Stk} (h : sameS a a = false) {P : Prop} : P := absurd h (by rw [sameS, decide_eq_true rfl]; simp)
theorem fsameM {a : List Msg} (h : sameM a a = false) {P : Prop} : P := absurd h (by rw [sameM, decide_eq_true rfl]; simp)
theorem flatten_len {n : Nat} : ∀ {ls : List (List Msg)}, (∀ l ∈ ls, l.length ≤ n) → ls.flatten.length ≤ ls.length * n
  | [], _ => by simp
  | l :: ls, h => by
    have h1 := h l List.mem_cons_self
    have h2 := flatten_len (ls := ls) fun x hx => h x (List.mem_cons_of_mem _ hx)
    rw [List.flatten_cons, List.length_append, List.length_cons, Nat.succ_mul]
    omega
theorem light18_all {ls : List (List Msg)} (h : lightV18 ls = true) : ls.length ≤ 6 ∧ ∀ l ∈ ls, l.length ≤ 12 := by
  simp only [lightV18, Bool.and_eq_true, decide_eq_true_eq, List.all_eq_true] at h
  refine ⟨h.1, fun l hl => ?_⟩
  have h2 := h.2 l hl
  unfold lightM at h2
  rw [Bool.and_eq_true] at h2
  have := of_decide_eq_true h2.1
  omega
theorem light18_len {ls : List (List Msg)} (h : lightV18 ls = true) : ls.length ≤ 6 ∧ ls.flatten.length ≤ 72 := by
  obtain ⟨h1, h2⟩ := light18_all h
  have := flatten_len h2
  omega
def sFoldKeys : PSpec := lawSpec [StT, LvT, .str]
theorem pFoldKeys : PSound Tryz.prog 7 sFoldKeys := by
  refine psound (T := tab) (S := (spOf [(36, sLight.spec (lsOf [])), (37, sLight18.spec (lsOf [])), (38, sAwake18.spec (lsOf [])), (39, sLast.spec (lsOf [])), (40, sLastR.spec (lsOf [])), (41, sKey.spec (lsOf [])), (42, sKeyR.spec (lsOf [])), (21, sSSameR.spec (lsOf [])), (44, sOrder.spec (lsOf [])), (45, sOrderR.spec (lsOf [])), (43, sSameM.spec (lsOf []))])) (keep := k7) (by kernel_rfl) tabOk (spCons (pOk pLight fLight (by decide) lsNil) (spCons (pOk pLight18 fLight18 (by decide) lsNil) (spCons (pOk pAwake18 fAwake18 (by decide) lsNil) (spCons (pOk pLast fLast (by decide) lsNil) (spCons (pOk pLastR fLastR (by decide) lsNil) (spCons (pOk pKey fKey (by decide) lsNil) (spCons (pOk pKeyR fKeyR (by decide) lsNil) (spCons (pOk pSSameR fSSameR (by decide) lsNil) (spCons (pOk pOrder fOrder (by decide) lsNil) (spCons (pOk pOrderR fOrderR (by decide) lsNil) (spCons (pOk pSameM fSameM (by decide) lsNil) spNil))))))))))) (by kernel_rfl) Tryz.func7 (by kernel_rfl) (by decide) fun xs hg hp => ?_
  obtain ⟨⟨skey, xs⟩, ls, key, ⟨⟩⟩ := xs
  change List UInt8 at skey key
  change List Ver at xs
  change List (List Msg) at ls
  clear hp hg
  show vfun tab _ k7 Tryz.f7 [.agg [.s skey, .sl VerT xs], .sl (.slice MsgT) ls, .s key] [] _
  refine Ev.out ?_
  repeat' (first | ((with_reducible refine Ev.mk ?_); conv => whnf) | (with_reducible refine And.intro ?_ ?_) | (intro h))
  all_goals (try simp only [decide_eq_true_eq, decide_eq_false_iff_not, beq_iff_eq, bne_iff_ne, beq_eq_false_iff_ne, bne_eq_false_iff_eq, Int.toNat_natCast, ge_iff_le, gt_iff_lt, Bool.not_eq_true', Bool.not_eq_false', Int.not_lt, Int.not_le, ne_eq] at *)
  all_goals (try dsimp only [Ty.den, Ty.dflt, StT, MsgT, VerT, sLight, sLight18] at *)
  all_goals (try simp only [eq4, ne4, eq3, ne3, eq2, ne2, Prod.eta, List.length_cons, List.length_nil, List.length_append, Nat.zero_add] at *)
  all_goals (try simp (disch := omega) only [wrap64] at *)
  all_goals try first | exact leafDraw (by kernel_rfl) | exact Leaf.mk trivial | (refine Leaf.mk ?_; omega) | (refine Leaf.mk ?_; unfold maxLen; omega)
  all_goals first
    | exact Leaf.mk rfl
    | (have h1 := light18_len ‹lightV18 ls = true›
       have h2 := (light_of ‹light (skey, xs) = true›).2
       dsimp only at h2
       first
       | exact Leaf.mk (show ls.length ≤ 100 ∧ ls.flatten.length ≤ 50000 by omega)
       | exact Leaf.mk (show ls.length ≤ 100 ∧ ls.flatten.length ≤ 100000 by omega)
       | exact Leaf.mk (show ls.length ≤ 100 ∧ xs.length + ls.flatten.length ≤ 50000 by omega))
    | exact fsameS (show sameS (foldM (skey, xs) (ordL ls)) (foldM (skey, xs) (ordL ls)) = false from ‹_›)
    | exact fsameM (show sameM (ordL ls) (ordL ls) = false from ‹_›)
    | exact absurd rfl (show ¬ (lastW (lastP key) (ordL ls)).2 = (lastW (lastP key) (ordL ls)).2 from ‹_›)
    | (exfalso; simp [sLast] at *; done)
    | skip
end Go.Proofs.YtkmfjlfejdoehaaGreat
