import Derived.Test.YtkmfjlfejdoehaaQ8
import Derived.Test.YtkmfjlfejdoehaaEng4
import Derived.Test.YtkmfjlfejdoehaaTab
import Derived.Test.YtkmfjlfejdoehaaEng6
import Derived.RangeFuncBox
import Derived.RangeFuncLeaves
import Derived.Shelf.Abstract
import Derived.WalkKit
import Derived.OwnWalkIn
import Derived.TacticsInMore
import Derived.LoopNIn
import Derived.LoopIn
/- Texts, one behind the other. -/
set_option linter.unusedVariables false
set_option linter.unusedSimpArgs false
set_option maxRecDepth 8000
set_option maxHeartbeats 4000000
namespace Go.Proofs.Ytkmfjlfejdoehaa
open Go.Eng
theorem fBinS : FnOk Try.prog 59 := ⟨_, Try.func59, by decide, rfl⟩
noncomputable def iBinS : Eng.Spec := inl tab (spOf [(60, sByKey.spec (lsOf []))]) k59 Try.f59
theorem pBinS : SpecOk Try.prog 59 iBinS := inl_ok tabOk (spCons (pOk pByKey fByKey (by decide) lsNil) spNil) (by kernel_rfl) Try.func59 (by kernel_rfl)
theorem fOver1i : FnOk Try.prog 63 := ⟨_, Try.func63, by decide, rfl⟩
noncomputable def iOver1i : Eng.Spec := inl tab (spOf [(64, sFold.spec (lsOf []))]) k63 Try.f63
theorem pOver1i : SpecOk Try.prog 63 iOver1i := inl_ok tabOk (spCons (pOk pFold fFold (by decide) lsNil) spNil) (by kernel_rfl) Try.func63 (by kernel_rfl)
theorem fDoneO : FnOk Try.prog 62 := ⟨_, Try.func62, by decide, rfl⟩
noncomputable def iDoneO : Eng.Spec := inl tab (spOf [(63, iOver1i)]) k62 Try.f62
theorem pDoneO : SpecOk Try.prog 62 iDoneO := inl_ok tabOk (spCons (.inl ⟨pOver1i, fOver1i⟩) spNil) (by kernel_rfl) Try.func62 (by kernel_rfl)
def fullP (s : Stk) : Bool := decide (0 < s.2.length)
def xN (l : List Stk) (ks : List (List UInt8)) (j : Nat) : List Stk := (ks.take j).foldl withF l
def overM (l : List Stk) (m : List Msg) (lo hi : List UInt8) : List Stk := (((keysF lo hi m).foldl withF (l.filter (inR lo hi))).map fun s => foldM s m).filter fullP
def RiseK (l : List Stk) : Prop := l.Pairwise fun a b => a.1 < b.1
theorem riseK_at {l : List Stk} (h : RiseK l) {a b : Nat} (hab : a < b) (hb : b < l.length) : (l.getD a stk0).1 < (l.getD b stk0).1 := by
  have e : ∀ i, (h : i < l.length) → l.getD i stk0 = l[i] := fun i h => by rw [List.getD_eq_getElem?_getD, List.getElem?_eq_getElem h]; rfl
  rw [e a (by omega), e b hb]
  exact (List.pairwise_iff_getElem.1 h) _ _ _ _ hab
theorem lastL_iff {k : List UInt8} {l : List Stk} (h : RiseK l) : ∀ n, n ≤ l.length → ∀ a, a < n → ((l.getD a stk0).1 < k ↔ a < lastL k l n)
  | 0, _, a, ha => by omega
  | n + 1, hn, a, ha => by
    rw [lastL]
    split
    · rename_i hs
      have hs := sless_iff.1 hs
      by_cases hx : a = n
      · subst hx; exact ⟨fun _ => by omega, fun _ => hs⟩
      · exact ⟨fun _ => by omega, fun _ => slt_trans (riseK_at h (show a < n by omega) (by omega)) hs⟩
    · rename_i hs
      have hle := lastL_le k l n
      by_cases hx : a = n
      · subst hx
        exact ⟨fun hc => absurd (sless_iff.2 hc) hs, fun hc => by omega⟩
      · exact lastL_iff h n (by omega) a (by omega)
theorem mid_eq {a b : Nat} (h : a + b ≤ 100000) : IntKind.i64.wrap ((IntKind.u64.wrap ((a : Int) + b)).fdiv (2 ^ min (Int.toNat 1) IntKind.u64.bits)) = (((a + b) / 2 : Nat) : Int) := by
  rw [wrapU64, Int.emod_eq_of_lt (by omega) (by omega), show (2 : Int) ^ min (Int.toNat 1) IntKind.u64.bits = 2 from rfl, Int.fdiv_eq_ediv_of_nonneg _ (by decide), wrap64 (by omega)]
  omega
theorem idxF_neg {α : Type} {p : α → Bool} : ∀ (xs : List α) (i : Nat), idxF p xs i < 0 ↔ ∀ x ∈ xs, p x = false
  | [], i => by simp [idxF]
  | x :: r, i => by
    rw [idxF]
    split
    · rename_i h
      exact ⟨fun hc => by omega, fun hc => by have := hc x List.mem_cons_self; rw [h] at this; cases this⟩
    · rename_i h
      rw [idxF_neg r (i + 1)]
      simp only [List.mem_cons, forall_eq_or_imp]
      exact ⟨fun hc => ⟨by simpa using h, hc⟩, fun hc => hc.2⟩
theorem plL_neg {l : List Stk} {k : List UInt8} : plL l k < 0 ↔ ∀ a, a < l.length → ¬ (l.getD a stk0).1 = k := by
  rw [plL, idxF_neg]
  constructor
  · intro h a ha hc
    have := h _ (getD_mem stk0 ha)
    rw [keyIs, hc] at this
    simp at this
  · intro h x hx
    obtain ⟨a, ha, rfl⟩ := List.mem_iff_getElem.1 hx
    have := h a ha
    rw [List.getD_eq_getElem?_getD, List.getElem?_eq_getElem ha] at this
    simpa [keyIs] using this
theorem withF_new {X : List Stk} {k : List UInt8} {q : Nat} (h : RiseK X) (hq : lastL k X X.length = q) (hn : X.length ≤ q ∨ ¬ (X.getD q stk0).1 = k) : withF X k = X.take q ++ (k, []) :: X.drop q := by
  rw [withF, hq, if_pos]
  rw [plL_neg]
  intro a ha hc
  have hi := lastL_iff (k := k) h X.length (Nat.le_refl _) a ha
  rw [hq] at hi
  by_cases haq : a < q
  · have := hi.2 haq; rw [hc] at this; exact slt_irrefl _ this
  · rcases hn with hn | hn
    · omega
    · by_cases he : a = q
      · subst he; exact hn hc
      · have h2 := riseK_at h (show q < a by omega) ha
        rw [hc] at h2
        have h3 := (lastL_iff (k := k) h X.length (Nat.le_refl _) q (by omega)).1 h2
        omega
theorem withF_old {X : List Stk} {k : List UInt8} {q : Nat} (hq : q < X.length) (he : (X.getD q stk0).1 = k) : withF X k = X := by
  rw [withF, if_neg]
  rw [plL_neg]
  exact fun h => h q hq he
theorem withF_rise {X : List Stk} {k : List UInt8} (h : RiseK X) : RiseK (withF X k) ∧ (withF X k).length ≤ X.length + 1 ∧ ∀ s ∈ withF X k, s ∈ X ∨ s = (k, []) := by
  rw [withF]
  split
  · rename_i hp
    have hle := lastL_le k X X.length
    have hno := plL_neg.1 hp
    have hiff := fun a (ha : a < X.length) => lastL_iff (k := k) h X.length (Nat.le_refl _) a ha
    generalize lastL k X X.length = q at *
    have g : ∀ a, (ha : a < X.length) → X.getD a stk0 = X[a] := fun a ha => by rw [List.getD_eq_getElem?_getD, List.getElem?_eq_getElem ha]; rfl
    have hsplit : (X.take q ++ X.drop q).Pairwise fun a b : Stk => a.1 < b.1 := by rw [List.take_append_drop]; exact h
    rw [List.pairwise_append] at hsplit
    have hlo : ∀ s ∈ X.take q, s.1 < k := fun s hs => by
      obtain ⟨a, ha, rfl⟩ := List.mem_iff_getElem.1 hs
      rw [List.length_take] at ha
      rw [List.getElem_take, ← g a (by omega)]
      exact (hiff a (by omega)).2 (by omega)
    have hhi : ∀ s ∈ X.drop q, k < s.1 := fun s hs => by
      obtain ⟨a, ha, rfl⟩ := List.mem_iff_getElem.1 hs
      rw [List.length_drop] at ha
      rw [List.getElem_drop, ← g (q + a) (by omega)]
      have h1 : ¬ (X.getD (q + a) stk0).1 < k := fun hc => by have := (hiff (q + a) (by omega)).1 hc; omega
      have h2 := hno (q + a) (by omega)
      rcases sle_cases (List.not_lt.1 h1) with h3 | h3
      · exact h3
      · exact absurd h3.symm h2
    refine ⟨?_, by simp only [List.length_append, List.length_cons, List.length_take, List.length_drop]; omega, fun s hs => ?_⟩
    · rw [RiseK, List.pairwise_append, List.pairwise_cons]
      refine ⟨hsplit.1, ⟨fun b hb => hhi b hb, hsplit.2.1⟩, fun a ha b hb => ?_⟩
      rcases List.mem_cons.1 hb with rfl | hb
      · exact hlo a ha
      · exact hsplit.2.2 a ha b hb
    · rcases List.mem_append.1 hs with hs | hs
      · exact .inl (List.mem_of_mem_take hs)
      · rcases List.mem_cons.1 hs with hs | hs
        · exact .inr hs
        · exact .inl (List.mem_of_mem_drop hs)
  · exact ⟨h, Nat.le_succ _, fun s hs => .inl hs⟩
theorem xN_at {r : List Stk} {ks : List (List UInt8)} {j : Nat} (h : j < ks.length) : xN r ks (j + 1) = withF (xN r ks j) (ks.getD j []) := foldl_at [] h
structure XOkk (X : List Stk) (n : Nat) : Prop where
  rise : RiseK X
  len : X.length ≤ n
  all : ∀ s ∈ X, s.2.length ≤ 1000
theorem XOkk.next {X : List Stk} {n : Nat} (h : XOkk X n) (k : List UInt8) : XOkk (withF X k) (n + 1) := by
  obtain ⟨h1, h2, h3⟩ := withF_rise (k := k) h.rise
  refine ⟨h1, by have := h.len; omega, fun s hs => ?_⟩
  rcases h3 s hs with h4 | rfl
  · exact h.all s h4
  · exact Nat.zero_le _
def dnN (f : Stk → Stk) (l : List Stk) (i : Nat) : List Stk := ((l.take i).map f).filter fullP
theorem dnN_len (f : Stk → Stk) (l : List Stk) (i : Nat) : (dnN f l i).length ≤ i := by
  refine Nat.le_trans (List.length_filter_le _ _) ?_
  rw [List.length_map, List.length_take]; omega
theorem dnN_in {f : Stk → Stk} {l : List Stk} {i : Nat} (h : i < l.length) (hr : fullP (f (l.getD i stk0)) = true) : dnN f l (i + 1) = dnN f l i ++ [f (l.getD i stk0)] := by
  rw [dnN, take_at stk0 h, List.map_append, List.filter_append, List.map_singleton, List.filter_cons, if_pos hr]; rfl
theorem dnN_out {f : Stk → Stk} {l : List Stk} {i : Nat} (h : i < l.length) (hr : fullP (f (l.getD i stk0)) = false) : dnN f l (i + 1) = dnN f l i := by
  rw [dnN, take_at stk0 h, List.map_append, List.filter_append, List.map_singleton, List.filter_cons, if_neg (by rw [hr]; simp), List.filter_nil, List.append_nil]; rfl
def sLOver : PSpec := ⟨[.d SsT, .d MsT, .d .str, .d .str], [⟨false, [.d SsT]⟩], fun x => List.length x.1 ≤ 1000 ∧ List.length x.2.1 ≤ 1000 ∧ (∀ s ∈ x.1, List.length s.2 ≤ 1000) ∧ RiseK x.1, fun x => ((overM x.1 x.2.1 x.2.2.1 x.2.2.2.1, ()), ())⟩
theorem fLOver : FnOk Try.prog 34 := ⟨_, Try.func34, by decide, rfl⟩
theorem pLOver : PSound Try.prog 34 sLOver := by
  refine psound (T := tab) (S := (spOf [(57, sLRange.spec (lsOf [])), (58, sKeys.spec (lsOf [])), (59, iBinS), (60, sByKey.spec (lsOf [])), (61, sInsertT.spec), (62, iDoneO), (63, iOver1i), (64, sFold.spec (lsOf []))])) (keep := k34) (by kernel_rfl) tabOk (spCons (pOk pLRange fLRange (by decide) lsNil) (spCons (pOk pKeys fKeys (by decide) lsNil) (spCons (.inl ⟨pBinS, fBinS⟩) (spCons (pOk pByKey fByKey (by decide) lsNil) (spCons (.inl ⟨pInsertT, fInsertT⟩) (spCons (.inl ⟨pDoneO, fDoneO⟩) (spCons (.inl ⟨pOver1i, fOver1i⟩) (spCons (pOk pFold fFold (by decide) lsNil) spNil)))))))) (by kernel_rfl) Try.func34 (by kernel_rfl) (by decide) fun xs hg hp => ?_
  obtain ⟨l, m, lo, hi, ⟨⟩⟩ := xs
  change List Stk at l
  change List Msg at m
  change List UInt8 at lo hi
  change l.length ≤ 1000 ∧ m.length ≤ 1000 ∧ (∀ s ∈ l, List.length s.2 ≤ 1000) ∧ RiseK l at hp
  obtain ⟨hl, hm, hs, hu⟩ := hp
  clear hg
  show vfun tab _ k34 Try.f34 [.sl StT l, .sl MsgT m, .s lo, .s hi] [] _
  refine Ev.out ?_
  repeat' (first | ((with_reducible refine Ev.mk ?_); conv => whnf) | (with_reducible refine And.intro ?_ ?_) | (intro h))
  all_goals (try simp only [decide_eq_true_eq, decide_eq_false_iff_not, beq_iff_eq, bne_iff_ne, beq_eq_false_iff_ne, bne_eq_false_iff_eq, Int.toNat_natCast, ge_iff_le, gt_iff_lt, Bool.not_eq_true', Bool.not_eq_false', Int.not_lt, Int.not_le, ne_eq] at *)
  all_goals (try dsimp only [Ty.den, Ty.dflt, StT] at *)
  all_goals (try simp only [eq4, ne4, eq3, ne3, eq2, ne2, Prod.eta, List.length_cons, List.length_nil, List.length_append, Nat.zero_add] at *)
  all_goals (try simp (disch := omega) only [wrap64] at *)
  all_goals try first | exact leafDraw (by kernel_rfl) | exact Leaf.mk trivial | (refine Leaf.mk ?_; omega) | (refine Leaf.mk ?_; unfold maxLen; omega)
  · exact Leaf.mk (show l.length ≤ 100000 by omega)
  · exact Leaf.mk (show m.length ≤ 100000 by omega)
  rw [show (sKeys.fn (m, lo, hi, ())).1.1 = keysF lo hi m from rfl, show (sLRange.fn (l, lo, hi, ())).1.1 = l.filter (inR lo hi) from rfl]
  have hkl : (keysF lo hi m).length ≤ m.length := by rw [keysF, sortU_fold]; exact Nat.le_trans (sortU_len _) (by rw [keysL, List.length_map]; exact List.length_filter_le _ _)
  have hr0 : XOkk (l.filter (inR lo hi)) 1000 := ⟨List.Pairwise.filter _ hu, Nat.le_trans (List.length_filter_le _ _) hl, fun s h => hs s (List.mem_filter.1 h).1⟩
  generalize hks : keysF lo hi m = ks at *
  generalize hrr : l.filter (inR lo hi) = r at *
  refine LoopVC.on (fun j : Nat => [(24, .i .i64 j)]) (fun j => [(1, .arr 32 StT (xN r ks j))]) (fun j => j ≤ ks.length ∧ XOkk (xN r ks j) (1000 + j)) (fun j => ks.length - j) 0 ?_ ⟨by omega, hr0⟩ ?_
  · rfl
  intro j ⟨hj, hXo⟩
  have hnx : j < ks.length → xN r ks (j + 1) = withF (xN r ks j) (ks.getD j []) := fun h => xN_at h
  generalize hX : xN r ks j = X at *
  have hXl := hXo.len
  repeat' (first | ((with_reducible refine Ev.mk ?_); conv => whnf) | (with_reducible refine And.intro ?_ ?_) | (intro h))
  all_goals (try simp only [decide_eq_true_eq, decide_eq_false_iff_not, beq_iff_eq, bne_iff_ne, beq_eq_false_iff_ne, bne_eq_false_iff_eq, Int.toNat_natCast, ge_iff_le, gt_iff_lt, Bool.not_eq_true', Bool.not_eq_false', Int.not_lt, Int.not_le, ne_eq] at *)
  all_goals (try dsimp only [Ty.den, Ty.dflt, StT] at *)
  all_goals (try simp only [eq4, ne4, eq3, ne3, eq2, ne2, Prod.eta, List.length_cons, List.length_nil, List.length_append, Nat.zero_add] at *)
  all_goals (try simp (disch := omega) only [wrap64] at *)
  all_goals try first | exact leafDraw (by kernel_rfl) | exact Leaf.mk trivial | (refine Leaf.mk ?_; omega) | (refine Leaf.mk ?_; unfold maxLen; omega)
  · have hR := hXo.rise
    have hq := lastL_le (ks.getD j []) X X.length
    have hiff := fun a (h : a < X.length) => lastL_iff (k := ks.getD j []) hR X.length (Nat.le_refl _) a h
    generalize hqq : lastL (ks.getD j []) X X.length = q at *
    refine LoopVC.on (fun ab : Nat × Nat => [(9, .i .i64 ab.1), (10, .i .i64 ab.2)]) (fun _ => []) (fun ab => ab.1 ≤ q ∧ q ≤ ab.2 ∧ ab.2 ≤ X.length) (fun ab => ab.2 - ab.1) (0, X.length) ?_ ⟨by omega, hq, Nat.le_refl _⟩ ?_
    · rfl
    intro ⟨a, b⟩ ⟨h1, h2, h3⟩
    dsimp only at h1 h2 h3
    repeat' (first | ((with_reducible refine Ev.mk ?_); conv => whnf) | (with_reducible refine And.intro ?_ ?_) | (intro h))
    all_goals (try simp only [decide_eq_true_eq, decide_eq_false_iff_not, beq_iff_eq, bne_iff_ne, beq_eq_false_iff_ne, bne_eq_false_iff_eq, Int.toNat_natCast, ge_iff_le, gt_iff_lt, Bool.not_eq_true', Bool.not_eq_false', Int.not_lt, Int.not_le, ne_eq] at *)
    all_goals (try dsimp only [Ty.den, Ty.dflt, StT] at *)
    all_goals (try simp only [eq4, ne4, eq3, ne3, eq2, ne2, Prod.eta, List.length_cons, List.length_nil, List.length_append, Nat.zero_add] at *)
    all_goals (try simp (disch := omega) only [wrap64] at *)
    all_goals try first | exact leafDraw (by kernel_rfl) | exact Leaf.mk trivial | (refine Leaf.mk ?_; omega) | (refine Leaf.mk ?_; unfold maxLen; omega)
    all_goals try rw [mid_eq (a := a) (b := b) (by omega)] at *
    all_goals try simp only [Int.toNat_natCast] at *
    all_goals try first
      | (refine Leaf.mk ?_; omega)
      | exact Leaf.mk trivial
      | (have hlt := (cmpK_lt (X.getD ((a + b) / 2) stk0).1 (ks.getD j [])).1 (show cmpK _ _ < 0 from ‹_›)
         have := (hiff ((a + b) / 2) (by omega)).1 hlt
         refine Leaf.mk (Exists.intro ((a + b) / 2 + 1, b) ⟨?_, ⟨by dsimp only; omega, by dsimp only; omega, by dsimp only; omega⟩, by dsimp only; omega⟩)
         try rw [wrap64 (by omega)]
         rfl)
      | (have hnl : ¬ (X.getD ((a + b) / 2) stk0).1 < ks.getD j [] := fun hc => by
           have h9 := (cmpK_lt (X.getD ((a + b) / 2) stk0).1 (ks.getD j [])).2 hc
           have h8 : 0 ≤ cmpK (X.getD ((a + b) / 2) stk0).1 (ks.getD j []) := ‹_›
           omega
         have : ¬ (a + b) / 2 < q := fun hc => hnl ((hiff ((a + b) / 2) (by omega)).2 hc)
         exact Leaf.mk (Exists.intro (a, (a + b) / 2) ⟨rfl, ⟨by dsimp only; omega, by dsimp only; omega, by dsimp only; omega⟩, by dsimp only; omega⟩))
    all_goals try
      have haq : a = q := by omega
      subst haq
      have hab : b = a := by omega
      subst hab
    all_goals try first
      | (refine Leaf.mk (show (0 : Int) ≤ _ ∧ _ ≤ ((X.length : Nat) : Int) ∧ X.length + 1 ≤ 1000000 from ?_); omega)
      | (refine Leaf.mk (show inK _ _ = true from ?_)
         rw [wrapU64, Int.emod_eq_of_lt (by omega) (by omega), show (2 : Int) ^ min (Int.toNat 1) IntKind.u64.bits = 2 from rfl, Int.fdiv_eq_ediv_of_nonneg _ (by decide)]
         simp only [inK, Bool.and_eq_true, decide_eq_true_eq]; omega)
    all_goals first
      | (have hw : withF X (ks.getD j []) = X := withF_old (q := b) (by omega) ((cmpK_eq _ _).1 (show cmpK (X.getD b stk0).1 (ks.getD j []) = 0 from ‹_›))
         refine Leaf.mk (Exists.intro (j + 1) ⟨?_, ⟨by omega, by rw [hnx (by omega)]; exact hXo.next (ks.getD j [])⟩, by omega⟩)
         rw [hnx (by omega), hw]; rfl)
      | (have hw : withF X (ks.getD j []) = sInsertT.fn X ((b : Int), [(ks.getD j [], [])], ()) := by
           show _ = X.take ((b : Nat) : Int).toNat ++ ([(ks.getD j [], [])] ++ X.drop ((b : Nat) : Int).toNat)
           rw [Int.toNat_natCast]
           refine withF_new hR hqq ?_
           first
           | exact .inl (by omega)
           | exact .inr (fun hc => (show ¬ cmpK (X.getD b stk0).1 (ks.getD j []) = 0 from ‹_›) ((cmpK_eq _ _).2 hc))
         refine Leaf.mk (Exists.intro (j + 1) ⟨?_, ⟨by omega, by rw [hnx (by omega)]; exact hXo.next (ks.getD j [])⟩, by omega⟩)
         rw [hnx (by omega), hw]; rfl)
  have hjj : xN r ks ks.length = X := by rw [← hX, show j = ks.length by omega]
  refine LoopVC.weak [(.slot 5, .nil 32 StT)] (fun i : Nat => [(11, .i .i64 i)]) (fun i => [(18, .arr 32 StT (dnN (fun s => foldM s m) X i))]) (fun i => i ≤ X.length) (fun i => X.length - i) 0 (Ev.mk ?_)
  (conv => whnf)
  refine ⟨Leaf.mk rfl, Leaf.mk ?_, ?_⟩
  · omega
  intro i hii
  have hdl := dnN_len (fun s => foldM s m) X i
  repeat' (first | ((with_reducible refine Ev.mk ?_); conv => whnf) | (with_reducible refine And.intro ?_ ?_) | (intro h))
  all_goals (try simp only [decide_eq_true_eq, decide_eq_false_iff_not, beq_iff_eq, bne_iff_ne, beq_eq_false_iff_ne, bne_eq_false_iff_eq, Int.toNat_natCast, ge_iff_le, gt_iff_lt, Bool.not_eq_true', Bool.not_eq_false', Int.not_lt, Int.not_le, ne_eq] at *)
  all_goals (try dsimp only [Ty.den, Ty.dflt, StT] at *)
  all_goals (try simp only [eq4, ne4, eq3, ne3, eq2, ne2, Prod.eta, List.length_cons, List.length_nil, List.length_append, Nat.zero_add] at *)
  all_goals (try simp (disch := omega) only [wrap64] at *)
  all_goals try first | exact leafDraw (by kernel_rfl) | exact Leaf.mk trivial | (refine Leaf.mk ?_; omega) | (refine Leaf.mk ?_; unfold maxLen; omega)
  all_goals first
    | (refine Leaf.mk ?_; omega)
    | (refine Leaf.mk ?_; unfold maxLen; omega)
    | (have := hXo.all _ (getD_mem stk0 (show i < X.length by omega))
       exact Leaf.mk (show (X.getD i stk0).2.length + m.length ≤ 50000 by omega))
    | (have h9 : (0 : Int) < (((foldM (X.getD i stk0) m).2.length : Nat) : Int) := ‹_›
       refine Leaf.mk ⟨i + 1, ?_, by omega, by omega⟩
       rw [dnN_in (by omega) (decide_eq_true (by omega))]; rfl)
    | (have h9 : (((foldM (X.getD i stk0) m).2.length : Nat) : Int) ≤ 0 := ‹_›
       refine Leaf.mk ⟨i + 1, ?_, by omega, by omega⟩
       rw [dnN_out (by omega) (decide_eq_false (by omega))]; rfl)
    | (refine Leaf.mk (ret1 (show dnN (fun s => foldM s m) X i = overM l m lo hi from ?_))
       rw [dnN, take_all (show X.length ≤ i by omega), overM, hks, hrr, ← hjj, xN, List.take_length])
end Go.Proofs.Ytkmfjlfejdoehaa

set_option linter.unusedVariables false
set_option linter.unusedSimpArgs false
set_option maxRecDepth 8000
set_option maxHeartbeats 4000000
namespace Go.Proofs.Ytkmfjlfejdoehaa
open Go.Eng
abbrev LvT : Ty := .slice (.slice MsgT)
def ordL (ls : List (List Msg)) : List Msg := ls.reverse.flatten
theorem ordL_len (ls : List (List Msg)) : (ordL ls).length = ls.flatten.length := by
  rw [ordL, List.length_flatten, List.length_flatten, List.map_reverse, List.sum_reverse]
def sOrderR : PSpec := ⟨[.d LvT], [⟨false, [.d (.slice MsgT)]⟩], fun x => List.length x.1 ≤ 100 ∧ List.length (List.flatten (α := Msg) x.1) ≤ 100000, fun x => ((ordL x.1, ()), ())⟩
def sKeyR : PSpec := ⟨[.d StT, .d LvT], [⟨true, [.d StT]⟩], fun x => List.length x.2.1 ≤ 100 ∧ List.length x.1.2 + List.length (List.flatten (α := Msg) x.2.1) ≤ 50000, fun x => ((foldM x.1 (ordL x.2.1), ()), ())⟩
def sRangeR : PSpec := ⟨[.d SsT, .d LvT, .d .str, .d .str], [⟨false, [.d SsT]⟩], fun x => List.length x.2.1 ≤ 100 ∧ List.length (List.flatten (α := Msg) x.2.1) ≤ 1000 ∧ List.length x.1 ≤ 1000 ∧ (∀ s ∈ x.1, List.length s.2 ≤ 1000) ∧ RiseK x.1, fun x => ((overM x.1 (ordL x.2.1) x.2.2.1 x.2.2.2.1, ()), ())⟩
def lightV18 (ls : List (List Msg)) : Bool := decide (ls.length ≤ 6) && ls.all (fun l => lightM l 12)
def sLight18 : PSpec := ⟨[.d LvT], [⟨false, [.d .bool]⟩], fun _ => True, fun x => ((lightV18 x.1, ()), ())⟩
theorem lightV18_no {ls : List (List Msg)} (h : ¬ ls.length ≤ 6 ∨ ∃ i, i < ls.length ∧ lightM (ls.getD i []) 12 = false) : lightV18 ls = false := by
  apply Bool.eq_false_iff.2
  intro hc
  simp only [lightV18, Bool.and_eq_true, decide_eq_true_eq, List.all_eq_true] at hc
  rcases h with h | ⟨i, hi, h⟩
  · exact h hc.1
  · rw [hc.2 _ (getD_mem (xs := ls) [] hi)] at h; cases h
theorem lightV18_yes {ls : List (List Msg)} (h : ls.length ≤ 6) (h2 : ∀ i, i < ls.length → lightM (ls.getD i []) 12 = true) : lightV18 ls = true := by
  rw [lightV18, decide_eq_true h, Bool.true_and, List.all_eq_true]
  intro x hx
  obtain ⟨i, hi, rfl⟩ := List.mem_iff_getElem.1 hx
  have := h2 i hi
  rwa [List.getD_eq_getElem?_getD, List.getElem?_eq_getElem hi] at this
theorem fLight18 : FnOk Try.prog 8 := ⟨_, Try.func8, by decide, rfl⟩
theorem pLight18 : PSound Try.prog 8 sLight18 := by
  refine psound (T := tab) (S := (spOf [(31, sLightM.spec (lsOf []))])) (keep := k8) (by kernel_rfl) tabOk (spCons (pOk pLightM fLightM (by decide) lsNil) spNil) (by kernel_rfl) Try.func8 (by kernel_rfl) (by decide) fun xs hg hp => ?_
  obtain ⟨ls, ⟨⟩⟩ := xs
  obtain ⟨⟨hl, -⟩, -⟩ := hg
  change List (List Msg) at ls
  change ls.length ≤ _ at hl
  have hl := len63 hl
  clear hp
  show vfun tab _ k8 Try.f8 [.sl (.slice MsgT) ls] [] _
  refine Ev.out ?_
  repeat' (first | ((with_reducible refine Ev.mk ?_); conv => whnf) | (with_reducible refine And.intro ?_ ?_) | (intro h))
  all_goals (try simp only [decide_eq_true_eq, decide_eq_false_iff_not, beq_iff_eq, bne_iff_ne, beq_eq_false_iff_ne, bne_eq_false_iff_eq, Int.toNat_natCast, ge_iff_le, gt_iff_lt, Bool.not_eq_true', Bool.not_eq_false', Int.not_lt, Int.not_le, ne_eq] at *)
  all_goals (try dsimp only [Ty.den, Ty.dflt, LvT] at *)
  all_goals (try simp only [eq4, ne4, eq3, ne3, eq2, ne2, Prod.eta, List.length_cons, List.length_nil, List.length_append, Nat.zero_add] at *)
  all_goals (try simp (disch := omega) only [wrap64] at *)
  all_goals try first | exact leafDraw (by kernel_rfl) | exact Leaf.mk trivial | (refine Leaf.mk ?_; omega) | (refine Leaf.mk ?_; unfold maxLen; omega)
  · exact Leaf.mk (ret1 (show false = lightV18 ls from (lightV18_no (.inl (by omega))).symm))
  refine LoopVC.on (fun i : Nat => [(3, .i .i64 i)]) (fun _ => []) (fun i => i ≤ ls.length ∧ ∀ j, j < i → lightM (ls.getD j []) 12 = true) (fun i => ls.length - i) 0 rfl ⟨by omega, fun j hj => by omega⟩ ?_
  intro i ⟨hi, ha⟩
  repeat' (first | ((with_reducible refine Ev.mk ?_); conv => whnf) | (with_reducible refine And.intro ?_ ?_) | (intro h))
  all_goals (try simp only [decide_eq_true_eq, decide_eq_false_iff_not, beq_iff_eq, bne_iff_ne, beq_eq_false_iff_ne, bne_eq_false_iff_eq, Int.toNat_natCast, ge_iff_le, gt_iff_lt, Bool.not_eq_true', Bool.not_eq_false', Int.not_lt, Int.not_le, ne_eq] at *)
  all_goals (try dsimp only [Ty.den, Ty.dflt, LvT, sLightM] at *)
  all_goals (try simp only [eq4, ne4, eq3, ne3, eq2, ne2, Prod.eta, List.length_cons, List.length_nil, List.length_append, Nat.zero_add] at *)
  all_goals (try simp (disch := omega) only [wrap64] at *)
  all_goals try first | exact leafDraw (by kernel_rfl) | exact Leaf.mk trivial | (refine Leaf.mk ?_; omega) | (refine Leaf.mk ?_; unfold maxLen; omega)
  · exact Leaf.mk (ret1 (show false = lightV18 ls from (lightV18_no (.inr ⟨i, by omega, ‹_›⟩)).symm))
  · refine Leaf.mk ⟨i + 1, rfl, ⟨by omega, fun j hj => ?_⟩, by omega⟩
    rcases Nat.lt_or_ge j i with hji | hji
    · exact ha j hji
    · obtain rfl : j = i := by omega
      assumption
  · exact Leaf.mk (ret1 (show true = lightV18 ls from (lightV18_yes (by omega) (fun j hj => ha j (by omega))).symm))
instance decRiseK (l : List Stk) : Decidable (RiseK l) := inferInstanceAs (Decidable (l.Pairwise fun a b => a.1 < b.1))
def lastP (k : List UInt8) (m : Msg) : Bool := decide (m.1 = 0 ∧ m.2.1 = k ∧ mcheck m = 0)
def lastW (p : Msg → Bool) (l : List Msg) : Msg × Bool := l.foldl (fun a m => if p m = true then (m, true) else a) (msg0, false)
theorem retLs {u v : Msg × Bool} (h : u = v) : (some ((u.1, ()), (u.2, ()), ()) : Option ((Msg × Unit) × (Bool × Unit) × Unit)) = some ((v.1, ()), (v.2, ()), ()) := by rw [h]
def sLastR : PSpec := ⟨[.d LvT, .d .str], [⟨true, [.d MsgT]⟩, ⟨false, [.d .bool]⟩], fun x => List.length x.1 ≤ 100 ∧ List.length (List.flatten (α := Msg) x.1) ≤ 50000, fun x => (((lastW (lastP x.2.1) (ordL x.1)).1, ()), ((lastW (lastP x.2.1) (ordL x.1)).2, ()), ())⟩
def clipP (lo hi : List UInt8) (m : Msg) : Bool := wide m || (decide (m.1 = 0) && withinK lo hi m.2.1)
def sWithinF : PSpec := ⟨[.d .str, .d .str, .d .str], [⟨false, [.d .bool]⟩], fun _ => True, fun x => ((withinK x.2.1 x.2.2.1 x.1, ()), ())⟩
theorem fWithinF : FnOk Try.prog 41 := ⟨_, Try.func41, by decide, rfl⟩
theorem pWithinF : PSound Try.prog 41 sWithinF := by
  refine psound (T := tab) (S := (spOf [])) (keep := k41) (by kernel_rfl) tabOk spNil (by kernel_rfl) Try.func41 (by kernel_rfl) (by decide) fun xs hg hp => ?_
  obtain ⟨k, lo, hi, ⟨⟩⟩ := xs
  change List UInt8 at k lo hi
  clear hg hp
  show vfun tab _ k41 Try.f41 [.s k, .s lo, .s hi] [] _
  refine Ev.out ?_
  repeat' (first | ((with_reducible refine Ev.mk ?_); conv => whnf) | (with_reducible refine And.intro ?_ ?_) | (intro h))
  all_goals (try simp only [decide_eq_true_eq, decide_eq_false_iff_not, beq_iff_eq, bne_iff_ne, beq_eq_false_iff_ne, bne_eq_false_iff_eq, Int.toNat_natCast, ge_iff_le, gt_iff_lt, Bool.not_eq_true', Bool.not_eq_false', Int.not_lt, Int.not_le, ne_eq] at *)
  all_goals (try dsimp only [Ty.den, Ty.dflt, MsgT] at *)
  all_goals (try simp only [eq4, ne4, eq3, ne3, eq2, ne2, Prod.eta, List.length_cons, List.length_nil, List.length_append, Nat.zero_add] at *)
  all_goals (try simp (disch := omega) only [wrap64] at *)
  all_goals try first | exact leafDraw (by kernel_rfl) | exact Leaf.mk trivial | (refine Leaf.mk ?_; omega) | (refine Leaf.mk ?_; unfold maxLen; omega)
  all_goals
    refine Leaf.mk (ret1 (show _ = withinK lo hi k from ?_))
    simp [withinK, *]
def sClipR : PSpec := ⟨[.d (.slice MsgT), .d .str, .d .str], [⟨false, [.d (.slice MsgT)]⟩], fun x => List.length x.1 ≤ 100000, fun x => ((List.filter (α := Msg) (clipP x.2.1 x.2.2.1) x.1, ()), ())⟩
end Go.Proofs.Ytkmfjlfejdoehaa

set_option linter.unusedVariables false
set_option linter.unusedSimpArgs false
set_option maxRecDepth 8000
set_option maxHeartbeats 4000000
namespace Go.Proofs.Ytkmfjlfejdoehaa
open Go.Eng
def sCloneM : PSpec := ⟨[.d (.slice MsgT)], [⟨false, [.o 74 MsgT]⟩], fun x => x.1.length ≤ 1000000, fun x => ((x.1, ()), ())⟩
theorem fCloneM : FnOk Try.prog 38 := ⟨_, Try.func38, by decide, rfl⟩
theorem pCloneM : PSound Try.prog 38 sCloneM := by
  refine psound (T := tab) (S := (spOf [])) (keep := k38) (by kernel_rfl) tabOk spNil (by kernel_rfl) Try.func38 (by kernel_rfl) (by decide) fun xs hg hp => ?_
  obtain ⟨xs, ⟨⟩⟩ := xs
  obtain ⟨⟨hl, -⟩, -⟩ := hg
  change List Msg at xs
  clear hl
  change xs.length ≤ 1000000 at hp
  show vfun tab _ k38 Try.f38 [.sl MsgT xs] [] _
  refine Ev.out ?_
  repeat' (first | ((with_reducible refine Ev.mk ?_); conv => whnf) | (with_reducible refine And.intro ?_ ?_) | (intro h))
  all_goals (try simp only [decide_eq_true_eq, decide_eq_false_iff_not, beq_iff_eq, bne_iff_ne, beq_eq_false_iff_ne, bne_eq_false_iff_eq, Int.toNat_natCast, ge_iff_le, gt_iff_lt, Bool.not_eq_true', Bool.not_eq_false', Int.not_lt, Int.not_le, ne_eq] at *)
  all_goals (try dsimp only [Ty.den, Ty.dflt, MsgT] at *)
  all_goals (try simp only [eq4, ne4, eq3, ne3, eq2, ne2, Prod.eta, List.length_cons, List.length_nil, List.length_append, Nat.zero_add] at *)
  all_goals (try simp (disch := omega) only [wrap64] at *)
  all_goals try first | exact leafDraw (by kernel_rfl) | exact Leaf.mk trivial | (refine Leaf.mk ?_; omega) | (refine Leaf.mk ?_; unfold maxLen; omega)
  all_goals first
    | (refine Leaf.mk (ret1 (show ([] : List Msg) = xs from ?_)); exact (List.eq_nil_of_length_eq_zero (by omega)).symm)
    | exact Leaf.mk (ret1 rfl)
    | skip
theorem fClip1 : FnOk Try.prog 39 := ⟨_, Try.func39, by decide, rfl⟩
noncomputable def iClip1 : Eng.Spec := inl tab (spOf [(40, sWide.spec (lsOf [])), (41, sWithinF.spec (lsOf []))]) k39 Try.f39
theorem pClip1 : SpecOk Try.prog 39 iClip1 := inl_ok tabOk (spCons (pOk pWide fWide (by decide) lsNil) (spCons (pOk pWithinF fWithinF (by decide) lsNil) spNil)) (by kernel_rfl) Try.func39 (by kernel_rfl)
theorem fIndexFuncMi : FnOk Try.prog 73 := ⟨_, Try.func73, by decide, rfl⟩
noncomputable def iIndexFuncMi : Eng.Spec := inl tab (spOf [(39, iClip1)]) k73 Try.f73
theorem pIndexFuncMi : SpecOk Try.prog 73 iIndexFuncMi := inl_ok tabOk (spCons (.inl ⟨pClip1, fClip1⟩) spNil) (by kernel_rfl) Try.func73 (by kernel_rfl)
theorem fDeleteFuncM : FnOk Try.prog 37 := ⟨_, Try.func37, by decide, rfl⟩
noncomputable def iDeleteFuncM : Eng.Spec := opn tab (spOf [(39, iClip1), (73, iIndexFuncMi)]) k37 Try.f37
theorem pDeleteFuncM : SpecOk Try.prog 37 iDeleteFuncM := opn_ok tabOk (spCons (.inl ⟨pClip1, fClip1⟩) (spCons (.inl ⟨pIndexFuncMi, fIndexFuncMi⟩) spNil)) (by kernel_rfl) Try.func37 (by kernel_rfl)
def sClip : PSpec := sClipR
theorem fClip : FnOk Try.prog 17 := ⟨_, Try.func17, by decide, rfl⟩
theorem pClip : PSound Try.prog 17 sClip := by
  refine psound (T := tab) (S := (spOf [(38, sCloneM.spec (lsOf [])), (37, iDeleteFuncM)])) (keep := k17) (by kernel_rfl) tabOk (spCons (pOk pCloneM fCloneM (by decide) lsNil) (spCons (.inl ⟨pDeleteFuncM, fDeleteFuncM⟩) spNil)) (by kernel_rfl) Try.func17 (by kernel_rfl) (by decide) fun xs hg hp => ?_
  obtain ⟨l, lo, up, ⟨⟩⟩ := xs
  clear hg
  change List Msg at l
  change List UInt8 at lo up
  change l.length ≤ 100000 at hp
  show vfun tab _ k17 Try.f17 [.sl MsgT l, .s lo, .s up] [] _
  refine Ev.out ?_
  repeat' (first | ((with_reducible refine Ev.mk ?_); conv => whnf) | (with_reducible refine And.intro ?_ ?_) | (intro h))
  all_goals (try simp only [decide_eq_true_eq, decide_eq_false_iff_not, beq_iff_eq, bne_iff_ne, beq_eq_false_iff_ne, bne_eq_false_iff_eq, Int.toNat_natCast, ge_iff_le, gt_iff_lt, Bool.not_eq_true', Bool.not_eq_false', Int.not_lt, Int.not_le, ne_eq] at *)
  all_goals (try dsimp only [Ty.den, Ty.dflt, MsgT, sCloneM, sClipR] at *)
  all_goals (try simp only [eq4, ne4, eq3, ne3, eq2, ne2, Prod.eta, List.length_cons, List.length_nil, List.length_append, Nat.zero_add] at *)
  all_goals (try simp (disch := omega) only [wrap64] at *)
  all_goals (try simp only [Int.sub_zero, Int.toNat_natCast, Int.toNat_sub, Int.toNat_zero, Nat.zero_add, toNat_add', toNat_addsub, toNat_subadd, List.length_map, List.length_append, List.length_replicate, List.length_take, List.length_drop] at *)
  all_goals try first | exact leafDraw (by kernel_rfl) | exact Leaf.mk trivial | (refine Leaf.mk ?_; omega) | (refine Leaf.mk ?_; unfold maxLen; omega)
  rename_i k
  let p : Msg → Bool := fun m => !clipP lo up m
  have hpf : ∀ m : Msg, clipP lo up m = true → p m = false := fun m h => by show (!clipP lo up m) = false; rw [h]; rfl
  have hpt : ∀ m : Msg, clipP lo up m = false → p m = true := fun m h => by show (!clipP lo up m) = true; rw [h]; rfl
  have ht : l.filter (clipP lo up) = l.filter (fun m => !p m) := by
    refine congrArg (fun f => l.filter f) (funext fun m => ?_)
    show clipP lo up m = !(!clipP lo up m)
    rw [Bool.not_not]
  refine LoopVC.on (fun i : Nat => [(8, .i .i64 i)]) (fun _ => []) (fun i => i ≤ l.length ∧ ∀ j, j < i → p (l.getD j msg0) = false) (fun i => l.length - i) 0 rfl ⟨by omega, fun j hj => by omega⟩ ?_
  intro i ⟨hi, he⟩
  have hget : i < l.length → (l.map some ++ List.replicate k none).getD i none = some ((l.getD i msg0) : Msg) := fun h => raw_getD _ h
  repeat' (first | ((with_reducible refine Ev.mk ?_); conv => whnf) | (with_reducible refine And.intro ?_ ?_) | (intro h))
  all_goals (try simp only [decide_eq_true_eq, decide_eq_false_iff_not, beq_iff_eq, bne_iff_ne, beq_eq_false_iff_ne, bne_eq_false_iff_eq, Int.toNat_natCast, ge_iff_le, gt_iff_lt, Bool.not_eq_true', Bool.not_eq_false', Int.not_lt, Int.not_le, ne_eq] at *)
  all_goals (try dsimp only [Ty.den, Ty.dflt, MsgT, sCloneM, sClipR, sWide, sWithinF] at *)
  all_goals (try simp only [eq4, ne4, eq3, ne3, eq2, ne2, Prod.eta, List.length_cons, List.length_nil, List.length_append, Nat.zero_add] at *)
  all_goals (try simp (disch := omega) only [wrap64] at *)
  all_goals (try simp only [Int.sub_zero, Int.toNat_natCast, Int.toNat_sub, Int.toNat_zero, Nat.zero_add, toNat_add', toNat_addsub, toNat_subadd, List.length_map, List.length_append, List.length_replicate, List.length_take, List.length_drop] at *)
  all_goals try first | exact leafDraw (by kernel_rfl) | exact Leaf.mk trivial | (refine Leaf.mk ?_; omega) | (refine Leaf.mk ?_; unfold maxLen; omega)
  all_goals try rw [hget (by omega)] at *
  all_goals try simp only [Option.getD_some] at *
  · exact Leaf.mk rfl
  · have hpi : p (l.getD i msg0) = true := hpt _ (by simp_all [clipP])
    refine LoopVC.on (fun a : Nat × Nat × List (Option Msg) => [(5, .i .i64 a.1), (6, .i .i64 a.2.1)]) (fun a => [(10, .raw 74 MsgT a.2.2)]) (fun a => DF p l k a.2.2 a.1 a.2.1) (fun a => l.length - a.2.1) (i, i + 1, _) rfl (DF.init msg0 (by omega) he hpi) ?_
    intro ⟨i, j, zs⟩ D
    change DF p l k zs i j at D
    have hget : j < l.length → zs.getD j none = some ((l.getD j msg0) : Msg) := fun h => D.get _ h
    have hlen := D.len
    have hlt := D.lt
    have hle := D.le
    dsimp only
    repeat' (first | ((with_reducible refine Ev.mk ?_); conv => whnf) | (with_reducible refine And.intro ?_ ?_) | (intro h))
    all_goals (try simp only [decide_eq_true_eq, decide_eq_false_iff_not, beq_iff_eq, bne_iff_ne, beq_eq_false_iff_ne, bne_eq_false_iff_eq, Int.toNat_natCast, ge_iff_le, gt_iff_lt, Bool.not_eq_true', Bool.not_eq_false', Int.not_lt, Int.not_le, ne_eq] at *)
    all_goals (try dsimp only [Ty.den, Ty.dflt, MsgT, sCloneM, sClipR, sWide, sWithinF] at *)
    all_goals (try simp only [eq4, ne4, eq3, ne3, eq2, ne2, Prod.eta, List.length_cons, List.length_nil, List.length_append, Nat.zero_add] at *)
    all_goals (try simp (disch := omega) only [wrap64] at *)
    all_goals (try simp only [Int.sub_zero, Int.toNat_natCast, Int.toNat_sub, Int.toNat_zero, Nat.zero_add, toNat_add', toNat_addsub, toNat_subadd, List.length_map, List.length_append, List.length_replicate, List.length_take, List.length_drop] at *)
    all_goals try first | exact leafDraw (by kernel_rfl) | exact Leaf.mk trivial | (refine Leaf.mk ?_; omega) | (refine Leaf.mk ?_; unfold maxLen; omega)
    all_goals try rw [hget (by omega)] at *
    all_goals try simp only [Option.getD_some] at *
    all_goals first
      | exact Leaf.mk rfl
      | (have hpj : p (l.getD j msg0) = false := hpf _ (by simp_all [clipP])
         exact Leaf.mk ⟨(i + 1, j + 1, _), rfl, D.keep msg0 (by omega) hpj, by show _ - (j + 1) < _; omega⟩)
      | (have hpj : p (l.getD j msg0) = true := hpt _ (by simp_all [clipP])
         exact Leaf.mk ⟨(i, j + 1, zs), rfl, D.next msg0 (by omega) hpj, by show _ - (j + 1) < _; omega⟩)
      | (refine Leaf.mk ?_
         rw [List.append_assoc, D.end (by omega)]; exact raw_all)
      | (refine Leaf.mk (ret1 (show List.map (fun r => r.getD msg0) (List.take i (zs.take i ++ List.replicate (l.length - i) (some (msg0 : Msg)) ++ zs.drop (i + (l.length - i)))) = l.filter (clipP lo up) from ?_))
         rw [List.append_assoc, D.end (by omega), map_some_getD, ht])
      | skip
  · have hpi : p (l.getD i msg0) = true := hpt _ (by simp_all [clipP])
    refine LoopVC.on (fun a : Nat × Nat × List (Option Msg) => [(5, .i .i64 a.1), (6, .i .i64 a.2.1)]) (fun a => [(10, .raw 74 MsgT a.2.2)]) (fun a => DF p l k a.2.2 a.1 a.2.1) (fun a => l.length - a.2.1) (i, i + 1, _) rfl (DF.init msg0 (by omega) he hpi) ?_
    intro ⟨i, j, zs⟩ D
    change DF p l k zs i j at D
    have hget : j < l.length → zs.getD j none = some ((l.getD j msg0) : Msg) := fun h => D.get _ h
    have hlen := D.len
    have hlt := D.lt
    have hle := D.le
    dsimp only
    repeat' (first | ((with_reducible refine Ev.mk ?_); conv => whnf) | (with_reducible refine And.intro ?_ ?_) | (intro h))
    all_goals (try simp only [decide_eq_true_eq, decide_eq_false_iff_not, beq_iff_eq, bne_iff_ne, beq_eq_false_iff_ne, bne_eq_false_iff_eq, Int.toNat_natCast, ge_iff_le, gt_iff_lt, Bool.not_eq_true', Bool.not_eq_false', Int.not_lt, Int.not_le, ne_eq] at *)
    all_goals (try dsimp only [Ty.den, Ty.dflt, MsgT, sCloneM, sClipR, sWide, sWithinF] at *)
    all_goals (try simp only [eq4, ne4, eq3, ne3, eq2, ne2, Prod.eta, List.length_cons, List.length_nil, List.length_append, Nat.zero_add] at *)
    all_goals (try simp (disch := omega) only [wrap64] at *)
    all_goals (try simp only [Int.sub_zero, Int.toNat_natCast, Int.toNat_sub, Int.toNat_zero, Nat.zero_add, toNat_add', toNat_addsub, toNat_subadd, List.length_map, List.length_append, List.length_replicate, List.length_take, List.length_drop] at *)
    all_goals try first | exact leafDraw (by kernel_rfl) | exact Leaf.mk trivial | (refine Leaf.mk ?_; omega) | (refine Leaf.mk ?_; unfold maxLen; omega)
    all_goals try rw [hget (by omega)] at *
    all_goals try simp only [Option.getD_some] at *
    all_goals first
      | exact Leaf.mk rfl
      | (have hpj : p (l.getD j msg0) = false := hpf _ (by simp_all [clipP])
         exact Leaf.mk ⟨(i + 1, j + 1, _), rfl, D.keep msg0 (by omega) hpj, by show _ - (j + 1) < _; omega⟩)
      | (have hpj : p (l.getD j msg0) = true := hpt _ (by simp_all [clipP])
         exact Leaf.mk ⟨(i, j + 1, zs), rfl, D.next msg0 (by omega) hpj, by show _ - (j + 1) < _; omega⟩)
      | (refine Leaf.mk ?_
         rw [List.append_assoc, D.end (by omega)]; exact raw_all)
      | (refine Leaf.mk (ret1 (show List.map (fun r => r.getD msg0) (List.take i (zs.take i ++ List.replicate (l.length - i) (some (msg0 : Msg)) ++ zs.drop (i + (l.length - i)))) = l.filter (clipP lo up) from ?_))
         rw [List.append_assoc, D.end (by omega), map_some_getD, ht])
      | skip
  · have hpi : p (l.getD i msg0) = false := hpf _ (by simp_all [clipP])
    refine Leaf.mk ⟨i + 1, rfl, ⟨by omega, fun j hj => ?_⟩, by omega⟩
    by_cases hji : j = i
    · subst hji; exact hpi
    · exact he j (by omega)
  · have hpi : p (l.getD i msg0) = false := hpf _ (by simp_all [clipP])
    refine Leaf.mk ⟨i + 1, rfl, ⟨by omega, fun j hj => ?_⟩, by omega⟩
    by_cases hji : j = i
    · subst hji; exact hpi
    · exact he j (by omega)
  · refine Leaf.mk (?_ : (List.take _ (l.map some ++ List.replicate k none)).all Option.isSome = true); rw [raw_take (Nat.le_refl _)]; exact raw_all
  · refine Leaf.mk (ret1 (show List.map (fun r => r.getD msg0) (List.take l.length (l.map some ++ List.replicate k none)) = l.filter (clipP lo up) from ?_))
    rw [raw_take (Nat.le_refl _), map_some_getD, List.take_length, ht, List.filter_eq_self.2]
    intro e hm
    obtain ⟨j, hj, rfl⟩ := List.mem_iff_getElem.1 hm
    have := he j (by omega)
    rw [List.getD_eq_getElem?_getD, List.getElem?_eq_getElem hj] at this
    simp [show p l[j] = false from this]
  · exact absurd trivial ‹¬ True›
end Go.Proofs.Ytkmfjlfejdoehaa

set_option linter.unusedVariables false
set_option linter.unusedSimpArgs false
namespace Go.Proofs.Ytkmfjlfejdoehaa
open Go.Proofs Go.RowKit Go.Shelf Go.Eng
attribute [local go_sem] Oper.semAt_some
theorem kept_cell {Kx : Nat → Go.Obj → Prop} {A B : World} (h : Kept Kx A B) {p : Addr} (hk : ∀ o, A.heap[p.block]? = some o → Kx p.block o) {v : Value} (hc : A.cell? p = some v) : B.cell? p = some v := by
  unfold World.cell? at hc ⊢
  cases ho : A.heap[p.block]? with
  | none => simp [ho] at hc
  | some o => rw [h.same _ o ho (hk o ho)]; rw [ho] at hc; exact hc
theorem cell_lt {A : World} {p : Addr} {v : Value} (hc : A.cell? p = some v) : p.block < A.heap.size := by
  unfold World.cell? at hc
  cases ho : A.heap[p.block]? with
  | none => simp [ho] at hc
  | some o => exact (Array.getElem?_eq_some_iff.1 ho).1
theorem cell_alloc {A : World} (o : Go.Obj) {p : Addr} {v : Value} (hc : A.cell? p = some v) : (A.alloc o).cell? p = some v :=
  (((Below.refl _ A).alloc (Nat.le_refl _) o).cell (p := p) (cell_lt hc)).trans hc
theorem ownFrom_kept {β : Type} {Kx : Nat → Go.Obj → Prop} {A : World} {B : Nat} (hB : A.heap.size ≤ B) : OwnFrom B (fun (_ : β) W => Kept Kx A W) := fun _ X Y row hs hg hr =>
  ⟨Nat.le_trans hs.size hg.size, fun b o hb hk => by
    have h1 := hs.same b o hb hk
    refine (hg.block b (Array.getElem?_eq_some_iff.1 h1).1 (fun e => ?_)).trans h1
    have := (hr b e.symm).1
    have := (Array.getElem?_eq_some_iff.1 hb).1
    omega⟩
def backs (vs : List Value) : List (Int × Value) := ((List.range vs.length).map fun (i : Nat) => ((i : Int), vs[i]?.getD undef)).reverse
theorem backs_len (vs : List Value) : (backs vs).length = vs.length := by simp [backs]
theorem backs_at (vs : List Value) {k : Nat} (h0 : 0 < k) (h : k ≤ vs.length) : backs vs = (backs vs).take (vs.length - k) ++ (((k - 1 : Nat) : Int), vs[k - 1]?.getD undef) :: (backs vs).drop (vs.length - k + 1) := by
  have hl : vs.length - k < (backs vs).length := by rw [backs_len]; omega
  conv => lhs; rw [← List.take_append_drop (vs.length - k) (backs vs)]
  rw [List.drop_eq_getElem_cons hl]
  congr 2
  simp only [backs, List.getElem_reverse, List.getElem_map, List.getElem_range, List.length_map, List.length_range]
  rw [show vs.length - 1 - (vs.length - k) = k - 1 by omega]
theorem backs_mem {vs : List Value} {x : Int × Value} (h : x ∈ backs vs) : ∃ i : Nat, i < vs.length ∧ x = ((i : Int), vs[i]?.getD undef) := by
  rw [backs, List.mem_reverse, List.mem_map] at h
  obtain ⟨i, hi, rfl⟩ := h
  exact ⟨i, List.mem_range.1 hi, rfl⟩
theorem round_any {F : Fence} (hF : F = Fence.wide) {n m : Nat} {P : Program} {l f : Nat} {tmps : Array Value} {assign body : Code} {w : World} {R : Ending → World → Prop} (h : RoundIn F n P l f tmps assign body w R) : RoundIn F m P l f tmps assign body w R := by
  subst hF; exact ⟨h.1, fun c cs _ => h.2 c cs (room_wide _)⟩
theorem backs_step (vs : List Value) {k : Nat} (h0 : 0 < k) (h : k ≤ vs.length) : (backs vs).take (vs.length - (k - 1)) = (backs vs).take (vs.length - k) ++ [(((k - 1 : Nat) : Int), vs[k - 1]?.getD undef)] := by
  conv => lhs; rw [backs_at vs h0 h]
  have hl : ((backs vs).take (vs.length - k)).length = vs.length - k := by rw [List.length_take, backs_len]; omega
  rw [List.take_append, hl, List.take_of_length_le (by omega), show vs.length - (k - 1) - (vs.length - k) = 1 by omega]; rfl
set_option maxRecDepth 100000 in
set_option maxHeartbeats 2000000 in
theorem back1_in (F : Fence) (n : Nat) (h7 : F.fn 103) (hro : F.round = none) (hn : 1 ≤ n) (l Bs : Nat) (ad : Addr) (cap : Nat) (vs : List Value) (hreach : vs.length ≤ 1000000) (Kx : Nat → Go.Obj → Prop) (J : List (Int × Value) → World → Prop)
    (W : World) (hY : ∀ pre x post W1, backs vs = pre ++ x :: post → W.heap.size ≤ W1.heap.size → J pre W1 → YieldAt F (n - 1) Try.prog l #[.int .i64 x.1, x.2] W1 fun e W' => e = .returned (.bool true) ∧ J (pre ++ [x]) W' ∧ Kept Kx W1 W')
    (hBs : W.cell? ⟨Bs, 0, none⟩ = some (.slice (some ad) vs.length cap)) (hc : ∀ j, j < vs.length → W.cell? (ad.add j) = some (vs[j]?.getD undef)) (hKs : ∀ o, W.heap[Bs]? = some o → Kx Bs o) (hKb : 0 < vs.length → ∀ o, W.heap[ad.block]? = some o → Kx ad.block o) (h0 : J [] W) :
    CallsIn F n Try.prog 103 #[.func (.yield l) #[] #[], .pointer (some ⟨Bs, 0, none⟩)] W fun e W' => (∃ v, e = .returned v) ∧ J (backs vs) W' := by
  refine callsIn_of_wp Try.func103 rfl h7 ?_ hro
  simp only [Try.ntmps103, List.size_toArray, List.length_cons, List.length_nil, Nat.reduceAdd, Nat.reduceSub, Array.replicate_succ, Array.replicate_zero, List.push_toArray, List.append_toArray, List.nil_append, List.cons_append]
  gi_wp2
  gi_loopw [3] (fun i wr => ∃ k : Nat, k ≤ vs.length ∧ i = .int .i64 ((k : Int) - 1) ∧ J ((backs vs).take (vs.length - k)) wr ∧ Kept Kx W wr) (fun i _ => (intOf i + 1).toNat)
  case atStart => exact ⟨vs.length, Nat.le_refl _, rfl, by rw [Nat.sub_self]; exact h0, Kept.refl _⟩
  case round =>
    obtain ⟨k, hk, rfl, hJs, hnx⟩ := hrel
    by_cases hlt : 0 < k
    · have hat := backs_at vs hlt hk
      obtain ⟨fn, tmps, assign, body, hy, hR⟩ := hY _ _ _ wr hat hnx.size hJs
      have hBs' := kept_cell hnx (p := ⟨Bs, 0, none⟩) hKs hBs
      have hc' := kept_cell hnx (p := ad.add (k - 1)) (by rw [add_block]; exact hKb (by omega)) (hc (k - 1) (by omega))
      obtain ⟨q, rfl⟩ : ∃ q, k = q + 1 := ⟨k - 1, by omega⟩
      rw [show ((q + 1 : Nat) : Int) - 1 = (q : Int) by omega] at *
      rw [Nat.add_sub_cancel] at *
      dsimp only at hy
      gi_wp2
      refine hR.mono ?_
      rintro e W3 ⟨rfl, hJ3, hk3⟩
      gi_wp2
      go_roundw
      case rel => exact ⟨q, by omega, rfl, by have := backs_step vs hlt hk; rw [Nat.add_sub_cancel] at this; rw [this]; exact hJ3, hnx.trans hk3⟩
      case measure => simp [intOf]
    · obtain rfl : k = 0 := by omega
      gi_wp2
      go_end0
      refine ⟨⟨_, rfl⟩, ?_⟩
      rw [Nat.sub_zero, List.take_of_length_le (by rw [backs_len]; omega)] at hJs
      exact hJs
set_option maxRecDepth 100000 in
set_option maxHeartbeats 1000000 in
theorem back1_nil_in (F : Fence) (n : Nat) (h7 : F.fn 103) (hro : F.round = none) (l Bs : Nat) (J : List (Int × Value) → World → Prop) (W : World) (hBs : W.cell? ⟨Bs, 0, none⟩ = some (.slice none 0 0)) (h0 : J [] W) :
    CallsIn F n Try.prog 103 #[.func (.yield l) #[] #[], .pointer (some ⟨Bs, 0, none⟩)] W fun e W' => (∃ v, e = .returned v) ∧ J [] W' := by
  refine callsIn_of_wp Try.func103 rfl h7 ?_ hro
  simp only [Try.ntmps103, List.size_toArray, List.length_cons, List.length_nil, Nat.reduceAdd, Nat.reduceSub, Array.replicate_succ, Array.replicate_zero, List.push_toArray, List.append_toArray, List.nil_append, List.cons_append]
  gi_wp2
  gi_loopw [3] (fun i wr => i = .int .i64 (-1) ∧ J [] wr) (fun _ _ => 0)
  case atStart => exact ⟨rfl, h0⟩
  case round =>
    obtain ⟨rfl, hJs⟩ := hrel
    gi_wp2
    go_end0
    exact ⟨⟨_, rfl⟩, hJs⟩
set_option maxHeartbeats 1000000 in
theorem back_in (F : Fence) (n : Nat) (h5 : F.fn 66) (hro : F.round = none) (a : Option Addr) (len cap : Nat) (w : World) :
    CallsIn F n Try.prog 66 #[.slice a len cap] w fun e w' => e = .returned (.func (.func 103) #[] #[.pointer (some ⟨w.heap.size, 0, none⟩)]) ∧ w' = w.alloc (.cells #[.slice a len cap] 23) := by
  refine callsIn_of_wp Try.func66 rfl h5 ?_ hro
  simp only [Try.ntmps66, List.size_toArray, List.length_cons, List.length_nil, Nat.reduceAdd, Nat.reduceSub, Array.replicate_succ, Array.replicate_zero, List.push_toArray, List.append_toArray, List.nil_append, List.cons_append]
  gi_wp2
  go_ret
  exact ⟨rfl, rfl⟩
def Holds (W : World) (P : Nat → Prop) (sv : Value) (vs : List Value) : Prop :=
  (sv = .slice none 0 0 ∧ vs = []) ∨ ∃ ad cap, sv = .slice (some ad) vs.length cap ∧ ∀ j, j < vs.length → P ad.block ∧ W.cell? (ad.add j) = some (vs[j]?.getD undef)
theorem back_all (F : Fence) (n : Nat) (h7 : F.fn 103) (hro : F.round = none) (hn : 1 ≤ n) (Bs : Nat) (sv : Value) (vs : List Value) (hreach : vs.length ≤ 1000000) (Kx : Nat → Go.Obj → Prop) (w : World) (hKs : ∀ o, w.heap[Bs]? = some o → Kx Bs o)
    (hb : Bs < w.heap.size) (hBs : w.cell? ⟨Bs, 0, none⟩ = some sv) (hv : Holds w (fun b => b < w.heap.size ∧ ∀ o, w.heap[b]? = some o → Kx b o) sv vs) :
    SeqAll F n Try.prog 103 #[.pointer (some ⟨Bs, 0, none⟩)] (fun x : Int × Value => #[Value.int .i64 x.1, x.2]) Kx (backs vs) 0 w := fun l J W hW _ _ hY0 h0 => by
  have hY : ∀ pre x post W1, backs vs = pre ++ x :: post → W.heap.size ≤ W1.heap.size → J pre W1 → YieldAt F (n - 1) Try.prog l #[.int .i64 x.1, x.2] W1 fun e W' => e = .returned (.bool true) ∧ J (pre ++ [x]) W' ∧ Kept Kx W1 W' := fun pre x post W1 h1 h2 h3 => hY0 pre x post W1 h1 (by have := hW.size; omega) h3
  have hBs' := (hW.cell (p := ⟨Bs, 0, none⟩) hb).trans hBs
  rcases hv with ⟨rfl, rfl⟩ | ⟨ad, cap, rfl, hc⟩
  · exact back1_nil_in F n h7 hro l Bs J W hBs' h0
  · exact back1_in F n h7 hro hn l Bs ad cap vs hreach Kx J W hY hBs' (fun j hj => (hW.cell (p := ad.add j) (by rw [add_block]; exact (hc j hj).1.1)).trans (hc j hj).2) (fun o ho => hKs o ((hW.block _ hb).symm.trans ho)) (fun h1 o ho => (hc 0 h1).1.2 o ((hW.block _ (hc 0 h1).1.1).symm.trans ho)) h0
def msgV (kd : Int) (ky : ByteArray) (tx ts : Int) (gn : Bool) (va : ByteArray) : Value := .agg #[.int .u8 kd, .string ky, .int .i64 tx, .int .i64 ts, .bool gn, .string va]
def HoldsM (W : World) (P : Nat → Prop) (sv : Value) (ms : List Value) : Prop :=
  (sv = .slice none 0 0 ∧ ms = []) ∨ ∃ ad cap, sv = .slice (some ad) ms.length cap ∧ ∀ j, j < ms.length → P ad.block ∧ ∃ (kd : Int) (ky : ByteArray) (tx ts : Int) (gn : Bool) (va : ByteArray), ms[j]? = some (msgV kd ky tx ts gn va) ∧ W.cell? (ad.add (j * 6)) = some (.int .u8 kd) ∧ W.cell? ((ad.add (j * 6)).add 1) = some (.string ky) ∧ W.cell? ((ad.add (j * 6)).add 2) = some (.int .i64 tx) ∧ W.cell? ((ad.add (j * 6)).add 3) = some (.int .i64 ts) ∧ W.cell? ((ad.add (j * 6)).add 4) = some (.bool gn) ∧ W.cell? ((ad.add (j * 6)).add 5) = some (.string va)
def msOf (mss : List (List Value)) (x : Int × Value) : List Value := mss[x.1.toNat]?.getD []
set_option maxRecDepth 100000 in
set_option maxHeartbeats 4000000 in
theorem ups1_in (F : Fence) (n : Nat) (hany : ∀ (m : Nat) {l f : Nat} {tmps : Array Value} {assign body : Code} {w : World} {R : Ending → World → Prop}, RoundIn F (n - 1) Try.prog l f tmps assign body w R → RoundIn F m Try.prog l f tmps assign body w R) (h8 : F.fn 65) (h9 : F.fn 66) (h10 : F.fn 103) (hro : F.round = none) (hn : 6 ≤ n) (l Bs : Nat) (sv : Value) (vs : List Value) (mss : List (List Value)) (hreach : vs.length ≤ 1000000) (hreach2 : ∀ i : Nat, (mss[i]?.getD []).length ≤ 1000000)
    (Kx : Nat → Go.Obj → Prop) (hnc : ∀ b o, o.isCells = false → Kx b o) (J : List Value → World → Prop) (W : World) (hJ : OwnFrom W.heap.size J)
    (hY : ∀ pre x post W1, (backs vs).flatMap (msOf mss) = pre ++ x :: post → W.heap.size + 2 ≤ W1.heap.size → J pre W1 → YieldAt F (n - 1) Try.prog l #[x] W1 fun e W' => e = .returned (.bool true) ∧ J (pre ++ [x]) W' ∧ Kept Kx W1 W')
    (hBs : W.cell? ⟨Bs, 0, none⟩ = some sv) (hK1 : Kx W.heap.size (.cells #[.func (.yield l) #[] #[]] 86 (0, 0))) (hK2 : Kx (W.heap.size + 1) (.cells #[sv] 23 (0, 0)))
    (hsl : ∃ a len cap, sv = .slice a len cap) (hv : Holds W (fun b => b < W.heap.size ∧ ∀ o, W.heap[b]? = some o → Kx b o) sv vs)
    (hm : ∀ i, i < vs.length → HoldsM W (fun b => b < W.heap.size ∧ ∀ o, W.heap[b]? = some o → Kx b o) (vs[i]?.getD undef) (mss[i]?.getD [])) (h0 : J [] W) :
    CallsIn F n Try.prog 65 #[.func (.yield l) #[] #[], .pointer (some ⟨Bs, 0, none⟩)] W fun e W' => (∃ v, e = .returned v) ∧ J ((backs vs).flatMap (msOf mss)) W' := by
  have h1 : 1 ≤ n := by omega
  obtain ⟨a, len, cap, rfl⟩ := hsl
  refine callsIn_of_wp_marks Try.func65 rfl h8 ?_ hro
  simp only [Try.ntmps65, List.size_toArray, List.length_cons, List.length_nil, Nat.reduceAdd, Nat.reduceSub, Array.replicate_succ, Array.replicate_zero, List.push_toArray, List.append_toArray, List.nil_append, List.cons_append]
  have hBs1 := cell_alloc (.cells #[.func (.yield l) #[] #[]] 86) hBs
  gi_wp2_with (gi_at_call 66; refine (back_in F (n - 1) h9 hro _ _ _ _).mono ?_; rintro e w' ⟨rfl, rfl⟩)
  obtain ⟨W1, hW1⟩ : ∃ W1, (W.alloc (.cells #[.func (.yield l) #[] #[]] 86)).alloc (.cells #[.slice a len cap] 23) = W1 := ⟨_, rfl⟩
  have hs1 : W1.heap.size = W.heap.size + 2 := by rw [← hW1]; simp
  have hb1 : W1.heap[W.heap.size]? = some (.cells #[.func (.yield l) #[] #[]] 86 (0, 0)) := by rw [← hW1]; exact (Below.heap_alloc _ _ _ (by simp)).trans (World.alloc_heap_new _ _)
  have hb2 : W1.heap[W.heap.size + 1]? = some (.cells #[.slice a len cap] 23 (0, 0)) := by
    rw [← hW1]; have := World.alloc_heap_new (W.alloc (.cells #[.func (.yield l) #[] #[]] 86)) (.cells #[.slice a len cap] 23); rwa [World.size_alloc] at this
  have hWW : Below W.heap.size W W1 := by rw [← hW1]; exact ((Below.refl _ W).alloc (Nat.le_refl _) _).alloc (by simp) _
  have hJ1 : J [] W1 := by rw [← hW1]; exact hJ.alloc _ (hJ.alloc _ h0)
  have hc1 : W1.cell? ⟨W.heap.size, 0, none⟩ = some (.func (.yield l) #[] #[]) := by unfold World.cell?; rw [hb1]; rfl
  have hc2 : W1.cell? ⟨W.heap.size + 1, 0, none⟩ = some (.slice a len cap) := by unfold World.cell?; rw [hb2]; rfl
  rw [hW1]
  clear hW1 hBs1
  refine range_all hro h1 (gf := 103) (lb := #[.pointer (some ⟨W.heap.size + 1, 0, none⟩)]) rfl h10 (enters_of Try.func103 (by kernel_rfl) rfl)
    (back_all F (n - 1) h10 hro (by omega) (W.heap.size + 1) (.slice a len cap) vs hreach Kx W1 (fun o ho => by rw [hb2] at ho; cases ho; exact hK2) (by omega) hc2 ?holds) (fun _ => rfl) hnc
    (fun pre W' => J (pre.flatMap (msOf mss)) W' ∧ Kept Kx W1 W')
    (OwnFrom.and (fun s A B row hs hg hr => hJ _ A B row hs hg (fun r e => ⟨by have := (hr r e).1; omega, (hr r e).2⟩)) (ownFrom_kept (Nat.le_refl _)))
    ⟨hJ1, Kept.refl _⟩
    (fun pre x a' W' => (J (pre.flatMap (msOf mss)) W' ∧ Kept Kx W1 W') ∧ a' = { tmps := #[.func (.yield l) #[] #[], .pointer (some ⟨Bs, 0, none⟩), .pointer (some ⟨W.heap.size, 0, none⟩), undef, x.2, undef, undef, .slice a len cap, .func (.func 103) #[] #[.pointer (some ⟨W.heap.size + 1, 0, none⟩)], .int .i64 x.1, x.2, undef, undef, undef, undef, undef, undef, undef, undef, undef, undef, undef], defers := [] })
    (fun pre x a' => OwnFrom.and (OwnFrom.and (fun s A B row hs hg hr => hJ _ A B row hs hg (fun r e => ⟨by have := (hr r e).1; omega, (hr r e).2⟩)) (ownFrom_kept (Nat.le_refl _))) (ownFrom_pure _ (fun _ => _)))
    ?assign ?body ?done
  case holds =>
    rcases hv with ⟨h2, h3⟩ | ⟨ad, cap', h2, h5⟩
    · exact .inl ⟨h2, h3⟩
    · exact .inr ⟨ad, cap', h2, fun j hj => ⟨⟨by have := (h5 j hj).1.1; omega, fun o ho => (h5 j hj).1.2 o ((hWW.block _ (h5 j hj).1.1).symm.trans ho)⟩, (hWW.cell (p := ad.add j) (by rw [add_block]; exact (h5 j hj).1.1)).trans (h5 j hj).2⟩⟩
  case assign =>
    rintro l2 pre x post W' hxs _ ⟨hJ2, hk2⟩
    gi_wp2
    exact ⟨⟨⟨hJ2, hk2⟩, trivial⟩, Kept.refl _⟩
  case done =>
    rintro D W' hD ⟨hJ2, hk2⟩ hd
    gi_wp2
    refine ⟨by simp, .inl ⟨_, _, rfl, run_takeDeferred hd, ?_⟩⟩
    exact ⟨_, results_none rfl _ _ _, ⟨_, rfl⟩, hJ.putObj _ hJ2 (by omega) hd rfl⟩
  case body =>
    rintro l2 pre x post a' W' hxs _ ⟨⟨hJ2, hk2⟩, rfl⟩
    obtain ⟨i, hi, rfl⟩ := backs_mem (show x ∈ backs vs by rw [hxs]; simp)
    have hms : msOf mss ((i : Int), vs[i]?.getD undef) = mss[i]?.getD [] := by simp [msOf]
    have hfl : (backs vs).flatMap (msOf mss) = pre.flatMap (msOf mss) ++ (mss[i]?.getD [] ++ post.flatMap (msOf mss)) := by rw [hxs, List.flatMap_append, List.flatMap_cons, hms]
    have hpr : (pre ++ [((i : Int), vs[i]?.getD undef)]).flatMap (msOf mss) = pre.flatMap (msOf mss) ++ mss[i]?.getD [] := by rw [List.flatMap_append, List.flatMap_cons, hms]; simp
    rw [hpr]
    dsimp only
    have hml := hreach2 i
    have hmi := hm i hi
    generalize mss[i]?.getD [] = ms at *
    rcases hmi with ⟨h2, rfl⟩ | ⟨ad, cap', h2, h5⟩
    · rw [h2]
      gi_wp2
      gi_loopw [13] (fun i wr => i = .int .i64 0 ∧ J (pre.flatMap (msOf mss)) wr ∧ Kept Kx W1 wr ∧ Kept Kx W' wr) (fun _ _ => 0)
      case atStart => exact ⟨rfl, hJ2, hk2, Kept.refl _⟩
      case round =>
        obtain ⟨rfl, hJ3, hk3, hk4⟩ := hrel
        gi_wp2
        exact hJ3
    · rw [h2]
      gi_wp2
      gi_loopw [13] (fun i wr => ∃ k : Nat, k ≤ ms.length ∧ i = .int .i64 k ∧ J (pre.flatMap (msOf mss) ++ ms.take k) wr ∧ Kept Kx W1 wr ∧ Kept Kx W' wr) (fun i _ => ms.length - (intOf i).toNat)
      case atStart => exact ⟨0, Nat.zero_le _, rfl, by rw [List.take_zero, List.append_nil]; exact hJ2, hk2, Kept.refl _⟩
      case round =>
        obtain ⟨k, hk, rfl, hJ3, hk3, hk4⟩ := hrel
        by_cases hlt : k < ms.length
        · obtain ⟨⟨h3, h4⟩, kd, ky, tx, ts, gn, va, hmk, k0, k1, k2, k3, k4, k5⟩ := h5 k hlt
          have kk : ∀ {p : Addr} {c : Value}, p.block = ad.block → W.cell? p = some c → wr.cell? p = some c := fun {p} {c} e hc => by
            exact kept_cell hk3 (by rw [e]; exact fun o ho => h4 o ((hWW.block _ h3).symm.trans ho)) ((hWW.cell (p := p) (by rw [e]; exact h3)).trans hc)
          replace k0 := kk (p := ad.add (k * 6)) (by rw [add_block]) k0
          replace k1 : wr.cell? ⟨(ad.add (k * 6)).block, (ad.add (k * 6)).off + 1, none⟩ = some (.string ky) := kk (p := (ad.add (k * 6)).add 1) (by rw [add_block, add_block]) k1
          replace k2 : wr.cell? ⟨(ad.add (k * 6)).block, (ad.add (k * 6)).off + 2, none⟩ = some (.int .i64 tx) := kk (p := (ad.add (k * 6)).add 2) (by rw [add_block, add_block]) k2
          replace k3 : wr.cell? ⟨(ad.add (k * 6)).block, (ad.add (k * 6)).off + 3, none⟩ = some (.int .i64 ts) := kk (p := (ad.add (k * 6)).add 3) (by rw [add_block, add_block]) k3
          replace k4 : wr.cell? ⟨(ad.add (k * 6)).block, (ad.add (k * 6)).off + 4, none⟩ = some (.bool gn) := kk (p := (ad.add (k * 6)).add 4) (by rw [add_block, add_block]) k4
          replace k5 : wr.cell? ⟨(ad.add (k * 6)).block, (ad.add (k * 6)).off + 5, none⟩ = some (.string va) := kk (p := (ad.add (k * 6)).add 5) (by rw [add_block, add_block]) k5
          have hcy := kept_cell hk3 (p := ⟨W.heap.size, 0, none⟩) (fun o ho => by rw [hb1] at ho; cases ho; exact hK1) hc1
          have hmd : ms = ms.take k ++ msgV kd ky tx ts gn va :: ms.drop (k + 1) := by
            conv => lhs; rw [← List.take_append_drop k ms]
            rw [List.drop_eq_getElem_cons hlt]
            rw [List.getElem?_eq_getElem hlt] at hmk
            rw [Option.some.inj hmk]
          have htk : ms.take (k + 1) = ms.take k ++ [msgV kd ky tx ts gn va] := by
            rw [List.take_add_one, hmk]; rfl
          have hx2 : (backs vs).flatMap (msOf mss) = (pre.flatMap (msOf mss) ++ ms.take k) ++ msgV kd ky tx ts gn va :: (ms.drop (k + 1) ++ post.flatMap (msOf mss)) := by
            rw [hfl]
            conv => lhs; rw [hmd]
            simp
          obtain ⟨fn, tmps, assign, body, hy, hR⟩ := hY _ _ _ (wr.alloc (.cells #[.int .u8 kd, .string ky, .int .i64 tx, .int .i64 ts, .bool gn, .string va] 74)) hx2 (by have := hk3.size; simp; omega) (hJ.alloc _ hJ3)
          replace hR := hany (n - 1 - 1 - 1) hR
          dsimp only [msgV] at hy
          have hcy1 := cell_alloc (.cells #[.int .u8 kd, .string ky, .int .i64 tx, .int .i64 ts, .bool gn, .string va] 74) hcy
          have hka := Kept.grown (Kx := Kx) (World.grownBy_alloc wr (.cells #[.int .u8 kd, .string ky, .int .i64 tx, .int .i64 ts, .bool gn, .string va] 74) none) (fun r e => by cases e)
          clear hmk hmd hx2 hfl
          gi_wp2
          refine ⟨fun _ => by omega, RoundIn.mono (F := F.inRound l2) hR ?_⟩
          rintro e W3 ⟨rfl, hJ4, hk5⟩
          gi_wp2
          go_roundw
          case rel => exact ⟨k + 1, by omega, by simp, by rw [htk, ← List.append_assoc]; exact hJ4, hk3.trans (hka.trans hk5), hk4.trans (hka.trans hk5)⟩
          case measure => simp [intOf]; omega
        · obtain rfl : k = ms.length := by omega
          gi_wp2
          rw [List.take_length] at hJ3; exact hJ3
theorem ups_all (Bs : Nat) (sv : Value) (vs : List Value) (mss : List (List Value)) (hreach : vs.length ≤ 1000000) (hreach2 : ∀ i : Nat, (mss[i]?.getD []).length ≤ 1000000)
    (Kx : Nat → Go.Obj → Prop) (hnc : ∀ b o, o.isCells = false → Kx b o) (w : World) (hfar : ∀ b vs t, w.heap.size ≤ b → b < w.heap.size + 4 → Kx b (.cells vs t (0, 0))) (hb : Bs < w.heap.size)
    (hBs : w.cell? ⟨Bs, 0, none⟩ = some sv) (hsl : ∃ a len cap, sv = .slice a len cap) (hv : Holds w (fun b => b < w.heap.size ∧ ∀ o, w.heap[b]? = some o → Kx b o) sv vs)
    (hm : ∀ i, i < vs.length → HoldsM w (fun b => b < w.heap.size ∧ ∀ o, w.heap[b]? = some o → Kx b o) (vs[i]?.getD undef) (mss[i]?.getD [])) (n : Nat) (hn : 6 ≤ n) :
    SeqAll Fence.wide n Try.prog 65 #[.pointer (some ⟨Bs, 0, none⟩)] (fun x : Value => #[x]) Kx ((backs vs).flatMap (msOf mss)) 4 w := fun l J W hW hsz hJ hY h0 => by
  have hs := hW.size
  have hkeep : ∀ b, b < w.heap.size ∧ (∀ o, w.heap[b]? = some o → Kx b o) → b < W.heap.size ∧ ∀ o, W.heap[b]? = some o → Kx b o := fun b h => ⟨by have := h.1; omega, fun o ho => h.2 o ((hW.block _ h.1).symm.trans ho)⟩
  refine ups1_in Fence.wide n (fun m {_ _ _ _ _ _ _} h => round_any rfl h) trivial trivial trivial rfl hn l Bs sv vs mss hreach hreach2 Kx hnc J W hJ (fun pre x post W1 h1 h2 h3 => hY pre x post W1 h1 (by omega) h3) ((hW.cell (p := ⟨Bs, 0, none⟩) hb).trans hBs) (hfar _ _ _ hs (by omega)) (hfar _ _ _ (by omega) (by omega)) hsl ?_ (fun i hi => ?_) h0
  · rcases hv with h | ⟨ad, cap, h2, h5⟩
    · exact .inl h
    · exact .inr ⟨ad, cap, h2, fun j hj => ⟨hkeep _ (h5 j hj).1, (hW.cell (p := ad.add j) (by rw [add_block]; exact (h5 j hj).1.1)).trans (h5 j hj).2⟩⟩
  · rcases hm i hi with h | ⟨ad, cap, h2, h5⟩
    · exact .inl h
    · refine .inr ⟨ad, cap, h2, fun j hj => ?_⟩
      obtain ⟨h3, kd, ky, tx, ts, gn, va, hmk, k0, k1, k2, k3, k4, k5⟩ := h5 j hj
      have kk : ∀ {p : Addr} {c : Value}, p.block = ad.block → w.cell? p = some c → W.cell? p = some c := fun {p} {c} e hc => (hW.cell (p := p) (by rw [e]; exact h3.1)).trans hc
      exact ⟨hkeep _ h3, kd, ky, tx, ts, gn, va, hmk, kk (by rw [add_block]) k0, kk (by rw [add_block, add_block]) k1, kk (by rw [add_block, add_block]) k2, kk (by rw [add_block, add_block]) k3, kk (by rw [add_block, add_block]) k4, kk (by rw [add_block, add_block]) k5⟩
end Go.Proofs.Ytkmfjlfejdoehaa
