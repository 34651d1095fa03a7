import Derived.Test.YtiklpaemkeadjaaEngK
import Derived.Scope
/- A region, in the order of its text; names made canonical. -/
set_option linter.unusedVariables false
set_option linter.unusedSimpArgs false
namespace Go.Eng
open Go.RowKit (Below)

theorem forceN_eq (n : Nat) (k : Nat → Prop) : forceN n k = k n := by
  unfold forceN
  split <;> rfl
theorem forceL_eq {f : V → (V → Prop) → Prop} (hf : ∀ v k, f v k = k v) : ∀ (vs : List V) (k : List V → Prop), forceL f vs k = k vs
  | [], _ => rfl
  | v :: r, k => by
    simp only [forceL]
    rw [hf v]
    exact forceL_eq hf r _
theorem forceStep_eq {f : V → (V → Prop) → Prop} (hf : ∀ v k, f v k = k v) (v : V) (k : V → Prop) : forceStep f v k = k v := by
  unfold forceStep
  split
  all_goals first
    | rfl
    | (simp only [forceN_eq]; done)
    | exact forceL_eq hf _ _
    | (split <;> rfl)
theorem forceV_eq (v : V) (k : V → Prop) : forceV v k = k v :=
  forceStep_eq (forceStep_eq (forceStep_eq (forceStep_eq fun _ _ => rfl))) v k
theorem forceVs_eq (vs : List V) (k : List V → Prop) : forceVs vs k = k vs := forceL_eq forceV_eq vs k
theorem forceO_eq (o : Obj) (k : Obj → Prop) : forceO o k = k o := by
  cases o <;> simp only [forceO]
  exact forceVs_eq _ _
theorem forceH_eq : ∀ (h : Heap) (k : Heap → Prop), forceH h k = k h
  | [], _ => rfl
  | (n, o) :: r, k => by
    simp only [forceH, forceN_eq, forceO_eq]
    exact forceH_eq r _
theorem forceNews_eq : ∀ (n h : Heap) (k : Heap → Prop), forceNews n h k = k (n ++ h)
  | [], h, k => rfl
  | (n, o) :: r, h, k => by
    simp only [forceNews, forceN_eq, forceO_eq]
    exact forceNews_eq r h _
theorem forceE_eq : ∀ (e : Env) (k : Env → Prop), forceE e k = k e
  | [], _ => rfl
  | (n, v) :: r, k => by
    simp only [forceE, forceN_eq, forceV_eq]
    exact forceE_eq r _
theorem forceNs_eq : ∀ (l : List Nat) (k : List Nat → Prop), forceNs l k = k l
  | [], _ => rfl
  | n :: r, k => by
    simp only [forceNs, forceN_eq]
    exact forceNs_eq r _
theorem conj_out : ∀ {cs : List Prop} {K : Prop}, conj cs K → (∀ p ∈ cs, p) ∧ K
  | [], K, h => ⟨by simp, h⟩
  | c :: cs, K, h => by
    rw [conj_cons] at h
    obtain ⟨h1, h2⟩ := h
    obtain ⟨h3, h4⟩ := conj_out h2.out
    exact ⟨fun p hp => by
      rcases List.mem_cons.1 hp with rfl | hp
      · exact h1.out
      · exact h3 p hp, h4⟩

structure RelS (C : Cx) (N n : Nat) (env : Env) (h : Heap) (a : Act) (w : World) (g : Gh) : Prop where
  H : RelH C h w g
  E : RelE C env a.tmps w g
  ub : ∀ id, g.U id → id < n
  sz : a.tmps.size = N
  df : a.defers = []

section
variable {C : Cx} {w w' : World} {g g' : Gh} {h : Heap} {T : Tab} {S : Specs} {N n : Nat}

theorem put_sz (a : Act) (dst : Option Tmp) (x : Value) : (a.put dst x).tmps.size = a.tmps.size := by
  cases dst <;> simp [Act.put]
theorem put_df (a : Act) (dst : Option Tmp) (x : Value) : (a.put dst x).defers = a.defers := by
  cases dst <;> simp [Act.put]
theorem putK_eq (env : Env) (dst : Option Nat) (v : V) (k : Env → Prop) : putK env dst v k = k (putEnv env dst v) := by
  cases dst <;> rfl
def dstOk (N : Nat) (o : Oper) : Bool :=
  match o.dst with
  | some d => Nat.blt d N
  | none => true
theorem dstOk_lt {o : Oper} (h : dstOk N o = true) : ∀ d, o.dst = some d → d < N := by
  intro d hd
  simp only [dstOk, hd] at h
  exact Nat.le_of_ble_eq_true h

theorem RelS.next {env : Env} {a : Act} (r : RelS C N n env h a w g) {o : Oper} (hd : dstOk N o = true) {v : V} {x : Value} {h' : Heap} (q : WRes C w g n v h' x w' g') :
    RelS C N (n + 8) (putEnv env o.dst v) h' (a.put o.dst x) w' g' := by
  refine ⟨q.rel, (r.E.mono q.evo).put q.val (fun d hdd => by rw [r.sz]; exact dstOk_lt hd d hdd), fun id hi => ?_, by rw [put_sz]; exact r.sz, by rw [put_df]; exact r.df⟩
  rcases q.U id hi with h1 | h1
  · have := r.ub id h1; omega
  · omega
theorem RelS.fresh {env : Env} {a : Act} (r : RelS C N n env h a w g) : FreshIds g n := fun id h1 _ hU => by
  have := r.ub id hU; omega

theorem stepK_sound (hT : TabOk C.P T) (hS : SpecsOk C.P S) {env : Env} {a : Act} (r : RelS C N n env h a w g) {o : Oper} (hd : dstOk N o = true) {k : Env → Heap → Prop} (hs : stepK T S o n env h k)
    (K : Act → World → Prop) (Q : Exit → Act → World → Prop) (hk : ∀ env' h' a' w' g', k env' h' → RelS C N (n + 8) env' h' a' w' g' → K a' w') : o.wp C.P a w K Q := by
  unfold stepK at hs
  split at hs
  · rename_i c v news hq
    obtain ⟨hc, hs⟩ := conj_out hs
    rw [forceV_eq, putK_eq, forceNews_eq] at hs
    exact stepQ_sound hT hS r.H r.fresh r.E hq hc K Q fun x w' ⟨g', q⟩ => hk _ _ _ _ g' hs (r.next hd (q.wres r.H))
  · split at hs
    · rename_i c v h' hq
      obtain ⟨hc, hs⟩ := conj_out hs
      rw [forceV_eq, putK_eq, forceH_eq] at hs
      exact stepW_sound hT hS r.H r.fresh r.E hq hc K Q fun x w' ⟨g', q⟩ => hk _ _ _ _ g' hs (r.next hd q)
    · exact hs.elim

theorem split_sound {env : Env} {tmps : Array Value} (E : RelE C env tmps w g) {d : Nat} {k : Env → Prop} (hs : splitSlot env d k) : ∃ env', RelE C env' tmps w g ∧ k env' := by
  unfold splitSlot at hs
  split at hs
  · rename_i x hl
    obtain ⟨y, h1, h2⟩ := E d _ hl
    have ext : ∀ z, x = z → RelE C ((d, .bl z) :: env) tmps w g := fun z hz t v ht => by
      simp only [lookN] at ht
      cases hb : Nat.beq d t
      · rw [hb] at ht; exact E t v ht
      · rw [hb] at ht
        simp only [Option.some.injEq] at ht
        obtain rfl := Nat.eq_of_beq_eq_true hb
        subst ht; subst hz
        exact ⟨y, h1, by simpa [RV] using h2⟩
    cases x
    · exact ⟨_, ext false rfl, (hs.2 rfl).out⟩
    · exact ⟨_, ext true rfl, (hs.1 rfl).out⟩
  · exact ⟨env, E, hs⟩

theorem yielded_of {env : Env} {a : Act} (E : RelE C env a.tmps w g) {all : Array Oper} {j d : Nat} (hj : guardSlot all j = some d) {y : Bool} (hl : lookN env d = some (.bl y)) : yielded all a.tmps j = some y := by
  obtain ⟨x, h1, h2⟩ := E d _ hl
  simp only [RV] at h2
  subst h2
  unfold guardSlot at hj
  unfold yielded
  cases ho : all[j]? with
  | none => simp [ho] at hj
  | some o =>
    simp only [ho] at hj
    simp [hj, h1]

theorem yielded_none {env : Env} {a : Act} (E : RelE C env a.tmps w g) {all : Array Oper} {j d : Nat} (hj : guardSlot all j = some d) (hl : lookN env d = some (.tup [])) : yielded all a.tmps j = none := by
  obtain ⟨x, h1, h2⟩ := E d _ hl
  simp only [RV] at h2
  obtain ⟨vs, rfl, _⟩ := h2
  unfold guardSlot at hj
  unfold yielded
  cases ho : all[j]? with
  | none => simp [ho] at hj
  | some o =>
    simp only [ho] at hj
    simp [hj, h1]

theorem vop_sound {env : Env} {a : Act} (E : RelE C env a.tmps w g) {all : Array Oper} {o : Oper} {run skip : Env → Prop} (hs : vop all o env run skip) :
    (∃ env', RelE C env' a.tmps w g ∧ Region.wanted o (yielded all a.tmps) = true ∧ run env') ∨
    (∃ env', RelE C env' a.tmps w g ∧ Region.wanted o (yielded all a.tmps) = false ∧ skip (putEnv env' o.dst (.tup []))) := by
  have go : ∀ env, RelE C env a.tmps w g → (match pickSlot o with | some d => splitSlot env d run | none => run env) → ∃ env', RelE C env' a.tmps w g ∧ run env' := by
    intro env E hs
    split at hs
    · exact split_sound E hs
    · exact ⟨env, E, hs⟩
  unfold vop at hs
  dsimp only at hs
  split at hs
  · rename_i hg
    obtain ⟨env', h1, h2⟩ := go env E hs
    exact .inl ⟨env', h1, by simp [Region.wanted, hg], h2⟩
  · rename_i j want hg
    split at hs
    · exact hs.elim
    · rename_i d hd
      obtain ⟨env1, E1, hs⟩ := split_sound E hs
      split at hs
      · rename_i y hl
        have hy := yielded_of E1 hd hl
        split at hs
        · rename_i hb
          obtain ⟨env', h1, h2⟩ := go env1 E1 hs
          refine .inl ⟨env', h1, ?_, h2⟩
          simp only [Region.wanted, hg, hy]
          cases y <;> cases want <;> simp [boolEq] at hb ⊢
        · rename_i hb
          rw [putK_eq] at hs
          refine .inr ⟨env1, E1, ?_, hs⟩
          simp only [Region.wanted, hg, hy]
          cases y <;> cases want <;> simp [boolEq] at hb ⊢
      · rename_i hl
        rw [putK_eq] at hs
        refine .inr ⟨env1, E1, ?_, hs⟩
        simp only [Region.wanted, hg, yielded_none E1 hd hl]
        rfl
      · exact hs.elim

theorem RelS.skip {env : Env} {a : Act} (r : RelS C N n env h a w g) {env' : Env} (E : RelE C env' a.tmps w g) {o : Oper} (hd : dstOk N o = true) {m : Nat} (hm : n ≤ m) :
    RelS C N m (putEnv env' o.dst (.tup [])) h (a.put o.dst undef) w g :=
  ⟨r.H, E.put (by simp only [RV]; exact ⟨[], rfl, rfl⟩) (fun d hdd => by rw [r.sz]; exact dstOk_lt hd d hdd), fun id hi => Nat.lt_of_lt_of_le (r.ub id hi) hm, by rw [put_sz]; exact r.sz, by rw [put_df]; exact r.df⟩

theorem nilCmp_sound (hT : TabOk C.P T) {env : Env} {a : Act} (r : RelS C N n env h a w g) {o : Oper} {p : Bool} {q : Prop} (hs : nilCmp T o env h = some (p, q)) :
    ∃ b : Bool, (b = true → q) ∧ (execOp a.eval o).run C.P w = .ok (.value (.bool (b == p))) w := by
  unfold nilCmp at hs
  split at hs
  · rename_i op t x yt ho
    split at hs
    · rename_i e _ _ _ _ _ hti
      obtain ⟨inf, u, z, g1, g2, g3, g4, g5⟩ := ti_of hT hti
      obtain rfl := und_slice g4
      have hx := rd_rel r.E x
      have guard : ∀ (A : Option Addr) (m c : Nat) (op : BinOp), (eqGuard op t x (.const (.slice none 0 0)) (.slice A m c) (.slice none 0 0)).run C.P w = .ok () w := by
        intro A m c op
        unfold eqGuard
        cases op <;> simp
      have main : ∀ (A : Option Addr) (m c : Nat), a.eval x = .slice A m c → (A = none → q) → ((op = .eql ∧ p = true) ∨ (op = .neq ∧ p = false)) → ∃ b : Bool, (b = true → q) ∧ (execOp a.eval o).run C.P w = .ok (.value (.bool (b == p))) w := by
        intro A m c hA hq hop
        refine ⟨A.isNone, fun hb => hq (by simpa using hb), ?_⟩
        rcases hop with ⟨rfl, rfl⟩ | ⟨rfl, rfl⟩
        · have h1 : (binOp .eql t (.slice A m c) (.slice none 0 0)).run C.P w = .ok (.bool A.isNone) w := by
            simp only [binOp]
            simp [show (Op.equal t (.slice A m c) (.slice none 0 0)).run C.P w = .ok A.isNone w from equalIn_slice_nil 9999 t e A m c g2]
          simp [execOp, ho, Act.eval, guard, h1] at hA ⊢
          simp [hA, guard, h1]
        · have h1 : (binOp .neq t (.slice A m c) (.slice none 0 0)).run C.P w = .ok (.bool (!A.isNone)) w := by
            simp only [binOp]
            simp [show (Op.equal t (.slice A m c) (.slice none 0 0)).run C.P w = .ok A.isNone w from equalIn_slice_nil 9999 t e A m c g2]
          simp [execOp, ho, Act.eval, guard, h1] at hA ⊢
          simp [hA, guard, h1]
      have arr : ∀ (id : Nat) te e' xs, lookN h id = some (.arr te e' xs) → RV C w g (.own id) (a.eval x) → ∃ A m c, a.eval x = .slice A m c ∧ (A = none → xs.length = 0) := by
        intro id te e' xs hl hv
        obtain ⟨A, cap, cells, q1⟩ := view_of_arr (r.H.obj id _ hl).2
        simp only [RV] at hv
        refine ⟨A, _, _, by rw [hv.2.1]; exact q1.val, fun hA => ?_⟩
        have := q1.nil hA
        have := q1.le
        omega
      have sl : ∀ e' xs, RV C w g (.sl e' xs) (a.eval x) → ∃ A m c, a.eval x = .slice A m c ∧ (A = none → xs.length = 0) := by
        intro e' xs hv
        simp only [RV, rep] at hv
        obtain ⟨A, cap, h1, h2, h3, h4, _⟩ := hv
        simp only [List.cons.injEq, and_true] at h1
        exact ⟨A, _, _, h1, fun hA => by have := h4 hA; omega⟩
      split at hs
      · split at hs
        · rename_i e' xs hr
          simp only [Option.some.injEq, Prod.mk.injEq] at hs
          obtain ⟨rfl, rfl⟩ := hs
          rw [hr] at hx
          obtain ⟨A, m, c, h1, h2⟩ := sl _ _ hx
          exact main A m c h1 h2 (.inl ⟨rfl, rfl⟩)
        · rename_i id hr
          split at hs
          · rename_i te e' xs hl
            simp only [Option.some.injEq, Prod.mk.injEq] at hs
            obtain ⟨rfl, rfl⟩ := hs
            rw [hr] at hx
            obtain ⟨A, m, c, h1, h2⟩ := arr _ _ _ _ hl hx
            exact main A m c h1 h2 (.inl ⟨rfl, rfl⟩)
          · simp at hs
        · simp at hs
      · split at hs
        · rename_i e' xs hr
          simp only [Option.some.injEq, Prod.mk.injEq] at hs
          obtain ⟨rfl, rfl⟩ := hs
          rw [hr] at hx
          obtain ⟨A, m, c, h1, h2⟩ := sl _ _ hx
          exact main A m c h1 h2 (.inr ⟨rfl, rfl⟩)
        · rename_i id hr
          split at hs
          · rename_i te e' xs hl
            simp only [Option.some.injEq, Prod.mk.injEq] at hs
            obtain ⟨rfl, rfl⟩ := hs
            rw [hr] at hx
            obtain ⟨A, m, c, h1, h2⟩ := arr _ _ _ _ hl hx
            exact main A m c h1 h2 (.inr ⟨rfl, rfl⟩)
          · simp at hs
        · simp at hs
      · simp at hs
    · simp at hs
  · simp at hs
theorem stepKN_sound (hT : TabOk C.P T) (hS : SpecsOk C.P S) {env : Env} {a : Act} (r : RelS C N n env h a w g) {o : Oper} (hd : dstOk N o = true) {k : Env → Heap → Prop} (hs : stepKN T S o n env h k)
    (K : Act → World → Prop) (Q : Exit → Act → World → Prop) (hk : ∀ env' h' a' w' g', k env' h' → RelS C N (n + 8) env' h' a' w' g' → K a' w') : o.wp C.P a w K Q := by
  unfold stepKN at hs
  split at hs
  · rename_i p q hq
    obtain ⟨b, hb1, hb2⟩ := nilCmp_sound hT r hq
    have fin : ∀ v : Bool, (b == p) = v → (putK env o.dst (.bl v) fun env => k env h) → o.wp C.P a w K Q := fun v hv hk' => by
      rw [putK_eq] at hk'
      have D : Does C.P o a w fun x w' => ∃ g', QRes C w g n (.bl v) [] x w' g' := does_value (x := .bool (b == p)) (w' := w) hb2 ⟨g, QRes.pure (by simp [RV, hv])⟩
      exact D K Q fun x w' ⟨g', qq⟩ => hk _ _ _ _ g' hk' (r.next hd (qq.wres r.H))
    cases b
    · refine fin _ ?_ hs.2.out
      cases p <;> rfl
    · refine fin _ ?_ (hs.1 (hb1 rfl)).out
      cases p <;> rfl
  · exact stepK_sound hT hS r hd hs K Q hk
theorem vops_sound (hT : TabOk C.P T) (hS : SpecsOk C.P S) {all : Array Oper} {Q : Exit → Act → World → Prop} {K : Env → Heap → Prop} (hK : ∀ m env h a w g, K env h → RelS C N m env h a w g → Q .normal a w) :
    ∀ (ops : List Oper) (n : Nat) (env : Env) (h : Heap) (a : Act) (w : World) (g : Gh), (∀ o ∈ ops, dstOk N o = true) → vops T S all n ops env h K → RelS C N n env h a w g → wpList C.P all Q ops a w
  | [], n, env, h, a, w, g, _, hs, r => hK n env h a w g hs r
  | o :: rest, n, env, h, a, w, g, hd, hs, r => by
    have hdo := hd o (by simp)
    have hdr : ∀ o ∈ rest, dstOk N o = true := fun o ho => hd o (by simp [ho])
    rw [vops_cons] at hs
    refine wpList_step fun K' hK' => ?_
    rcases vop_sound r.E hs with ⟨env', E', hw, hs⟩ | ⟨env', E', hw, hs⟩
    · rw [if_pos hw]
      have r' : RelS C N n env' h a w g := ⟨r.H, E', r.ub, r.sz, r.df⟩
      refine stepKN_sound hT hS r' hdo hs K' Q fun env2 h2 a2 w2 g2 hk r2 => hK' _ _ ?_
      rw [forceN_eq] at hk
      exact vops_sound hT hS hK rest (n + 8) env2 h2 a2 w2 g2 hdr hk r2
    · rw [hw]
      simp only [Bool.false_eq_true, if_false]
      rw [forceN_eq] at hs
      exact hK' _ _ (vops_sound hT hS hK rest (n + 8) _ h _ w g hdr hs (r.skip E' hdo (by omega)))

/-! ## Names made canonical -/
theorem idxN_get : ∀ (l : List Nat) (id j : Nat), idxN l id = some j → l[j]? = some id
  | [], id, j, h => by simp [idxN] at h
  | a :: r, id, j, h => by
    simp only [idxN] at h
    cases hb : Nat.beq a id
    · rw [hb] at h
      simp only at h
      cases hr : idxN r id with
      | none => simp [hr] at h
      | some k =>
        simp only [hr, Option.some.injEq] at h
        subst h
        simpa using idxN_get r id k hr
    · rw [hb] at h
      simp only [Option.some.injEq] at h
      subst h
      obtain rfl := Nat.eq_of_beq_eq_true hb
      rfl
def gren (g : Gh) (ord : List Nat) : Gh := ⟨fun j => g.anch (ord.getD j 0), g.F, fun j => j < ord.length⟩
theorem gren_anch {ord : List Nat} {id j : Nat} (h : idxN ord id = some j) : (gren g ord).anch j = g.anch id ∧ (gren g ord).U j := by
  have := idxN_get ord id j h
  have hlt := (List.getElem?_eq_some_iff.1 this).1
  exact ⟨by simp [gren, List.getD, this], hlt⟩
theorem renL_rel {g2 : Gh} {f : V → V} (hf : ∀ v x, RV C w g v x → RV C w g2 (f v) x) : ∀ (cs : List V) (vs : List Value), RVs C w g cs vs → RVs C w g2 (renL f cs) vs
  | [], _, h => by simp only [renL, RVs] at h ⊢; exact h
  | c :: cs, _, h => by
    simp only [renL, RVs] at h ⊢
    obtain ⟨x, xs, h1, h2, h3⟩ := h
    exact ⟨x, xs, h1, hf c x h2, renL_rel hf cs xs h3⟩
theorem renStep_rel (ord : List Nat) {f : V → V} (hf : ∀ v x, RV C w g v x → RV C w (gren g ord) (f v) x) (v : V) (x : Value) (h : RV C w g v x) : RV C w (gren g ord) (renStep ord f v) x := by
  cases v <;> simp only [renStep]
  case any => simp [RV]
  case own id =>
    cases hi : idxN ord id with
    | none => simp [RV]
    | some j =>
      simp only [RV] at h ⊢
      exact ⟨(gren_anch (g := g) hi).2, by rw [(gren_anch (g := g) hi).1]; exact h.2.1, h.2.2⟩
  case ptr id col =>
    cases hi : idxN ord id with
    | none => simp [RV]
    | some j =>
      simp only [RV] at h ⊢
      exact ⟨(gren_anch (g := g) hi).2, by rw [(gren_anch (g := g) hi).1]; exact h.2⟩
  case ep id e r c =>
    cases hi : idxN ord id with
    | none => simp [RV]
    | some j =>
      simp only [RV] at h ⊢
      exact ⟨(gren_anch (g := g) hi).2, by rw [(gren_anch (g := g) hi).1]; exact h.2⟩
  case mp id =>
    cases hi : idxN ord id with
    | none => simp [RV]
    | some j =>
      simp only [RV] at h ⊢
      exact ⟨(gren_anch (g := g) hi).2, by rw [(gren_anch (g := g) hi).1]; exact h.2⟩
  case fn g' cs =>
    simp only [RV] at h ⊢
    obtain ⟨vs, h1, h2⟩ := h
    exact ⟨vs, h1, renL_rel hf cs vs h2⟩
  case agg cs =>
    simp only [RV] at h ⊢
    obtain ⟨vs, h1, h2⟩ := h
    exact ⟨vs, h1, renL_rel hf cs vs h2⟩
  case tup cs =>
    simp only [RV] at h ⊢
    obtain ⟨vs, h1, h2⟩ := h
    exact ⟨vs, h1, renL_rel hf cs vs h2⟩
  case rp cs =>
    simp only [RV] at h ⊢
    obtain ⟨a, vs, h1, h2, h3, h4⟩ := h
    exact ⟨a, vs, h1, h2, h3, renL_rel hf cs vs h4⟩
  all_goals (simp only [RV] at h ⊢; exact h)
theorem renV_rel (ord : List Nat) : ∀ (v : V) (x : Value), RV C w g v x → RV C w (gren g ord) (renV ord v) x :=
  renStep_rel ord (renStep_rel ord (renStep_rel ord (renStep_rel ord fun _ _ _ => by simp [RV])))
theorem renVs_rel (ord : List Nat) (cs : List V) (vs : List Value) (h : RVs C w g cs vs) : RVs C w (gren g ord) (renVs ord cs) vs := renL_rel (renV_rel ord) cs vs h
theorem renObj_rel {ord : List Nat} {id j : Nat} (hj : ord[j]? = some id) {o : Obj} (h : RO C w g id o) : RO C w (gren g ord) j (renObj ord o) := by
  have ha : (gren g ord).anch j = g.anch id := by simp [gren, List.getD, hj]
  cases o with
  | box cs =>
    obtain ⟨blk, vs, te, h1, h2, h3, h4, h5⟩ := h
    exact ⟨blk, vs, te, by rw [ha]; exact h1, h2, renVs_rel ord _ _ h3, h4, h5⟩
  | arr te e xs =>
    obtain ⟨cells, h1, h2, h3, h4⟩ := h
    exact ⟨cells, by rw [ha]; exact h1, h2, h3, fun b hb => h4 b (by rw [ha] at hb; exact hb)⟩
  | ice e xs =>
    simp only [renObj, RO] at h ⊢
    rw [ha]; exact h
  | map a b l => exact h.elim
theorem renObj_mut (ord : List Nat) (o : Obj) : (renObj ord o).mut = o.mut := by cases o <;> rfl
theorem renHeap_look (ord : List Nat) (h : Heap) : ∀ (l : List Nat) (j k : Nat) (o : Obj), lookN (renHeap ord h j l) k = some o → ∃ id o', j ≤ k ∧ l[k - j]? = some id ∧ lookN h id = some o' ∧ o = renObj ord o'
  | [], j, k, o, hk => by simp [renHeap, lookN] at hk
  | n :: r, j, k, o, hk => by
    have rec1 : lookN (renHeap ord h (j + 1) r) k = some o → ∃ id o', j ≤ k ∧ (n :: r)[k - j]? = some id ∧ lookN h id = some o' ∧ o = renObj ord o' := fun hk => by
      obtain ⟨id, o', h1, h2, h3, h4⟩ := renHeap_look ord h r (j + 1) k o hk
      refine ⟨id, o', by omega, ?_, h3, h4⟩
      rw [show k - j = (k - (j + 1)) + 1 by omega]
      simpa using h2
    simp only [renHeap] at hk
    split at hk
    · rename_i o1 ho1
      simp only [lookN] at hk
      cases hb : Nat.beq j k
      · rw [hb] at hk; exact rec1 hk
      · rw [hb] at hk
        simp only [Option.some.injEq] at hk
        obtain rfl := Nat.eq_of_beq_eq_true hb
        exact ⟨n, o1, Nat.le_refl _, by simp, ho1, hk.symm⟩
    · exact rec1 hk
theorem renHeap_len (ord : List Nat) (h : Heap) : ∀ (l : List Nat) (j : Nat), presN h l = true → (renHeap ord h j l).length = l.length
  | [], _, _ => rfl
  | n :: r, j, hp => by
    simp only [presN] at hp
    simp only [renHeap]
    cases ho : lookN h n with
    | none => simp [ho] at hp
    | some o => simp only [ho] at hp; simp [renHeap_len ord h r (j + 1) hp]
theorem memN_iff : ∀ (l : List Nat) (n : Nat), memN l n = true ↔ n ∈ l
  | [], n => by simp [memN]
  | a :: r, n => by
    simp only [memN]
    cases hb : Nat.beq a n
    · have : a ≠ n := fun e => by subst e; simp at hb
      simp only [memN_iff r n, List.mem_cons]
      constructor
      · exact .inr
      · rintro (h | h)
        · exact absurd h.symm this
        · exact h
    · obtain rfl := Nat.eq_of_beq_eq_true hb
      simp
theorem nodupN_iff : ∀ (l : List Nat), nodupN l = true → l.Nodup
  | [], _ => by simp
  | a :: r, h => by
    simp only [nodupN] at h
    cases hm : memN r a
    · rw [hm] at h
      simp only at h
      refine List.nodup_cons.2 ⟨fun hmem => ?_, nodupN_iff r h⟩
      have := (memN_iff r a).2 hmem
      rw [hm] at this; simp at this
    · rw [hm] at h; simp at h
theorem keepEnv_look : ∀ (keep : List Nat) (env : Env) (t : Nat) (v : V), lookN (keepEnv env keep) t = some v → lookN env t = some v
  | [], env, t, v, h => by simp [keepEnv, lookN] at h
  | k :: r, env, t, v, h => by
    simp only [keepEnv] at h
    split at h
    · rename_i u hu
      simp only [lookN] at h
      cases hb : Nat.beq k t
      · rw [hb] at h; exact keepEnv_look r env t v h
      · rw [hb] at h
        simp only [Option.some.injEq] at h
        obtain rfl := Nat.eq_of_beq_eq_true hb
        subst h
        exact hu
    · exact keepEnv_look r env t v h
theorem normEnv_look (ord : List Nat) : ∀ (env : Env) (t : Nat) (v : V), lookN (normEnv ord env) t = some v → ∃ u, lookN env t = some u ∧ v = renV ord u
  | [], t, v, h => by simp [normEnv, lookN] at h
  | (k, u) :: r, t, v, h => by
    simp only [normEnv, lookN] at h
    simp only [lookN]
    cases hb : Nat.beq k t
    · rw [hb] at h; exact normEnv_look ord r t v h
    · rw [hb] at h
      simp only [Option.some.injEq] at h
      exact ⟨u, rfl, h.symm⟩

theorem closeK_out {h : Heap} {k : List Nat → Prop} : ∀ (n : Nat) (l : List Nat), closeK h n l k → ∃ ord, k ord
  | 0, l, hs => ⟨l, hs⟩
  | n + 1, l, hs => by
    simp only [closeK] at hs
    rw [forceNs_eq] at hs
    split at hs
    · exact ⟨l, hs⟩
    · exact closeK_out n _ hs
theorem prefN_get : ∀ (l m : List Nat) (j : Nat), prefN l m = true → j < l.length → m[j]? = l[j]?
  | [], m, j, _, hj => by simp at hj
  | a :: r, [], j, h, _ => by simp [prefN] at h
  | a :: r, b :: s, j, h, hj => by
    simp only [prefN] at h
    split at h
    · rename_i hb
      obtain rfl := Nat.eq_of_beq_eq_true hb
      cases j with
      | zero => rfl
      | succ j => simpa using prefN_get r s j h (by simpa using hj)
    · cases h
theorem normK_sound {pins : List Nat} (hpin : pins = List.range C.np) {keep : List Nat} {env : Env} {a : Act} (r : RelS C N n env h a w g) {K : St → Prop} (hs : normK pins keep env h K) : ∃ env' h' g', K ⟨env', h'⟩ ∧ RelS C N h'.length env' h' a w g' := by
  unfold normK at hs
  rw [forceE_eq, forceNs_eq] at hs
  obtain ⟨ord, hs⟩ := closeK_out _ _ hs
  split at hs
  · rename_i hb
    rw [forceE_eq, forceH_eq] at hs
    simp only [Bool.and_eq_true] at hb
    have hnd := nodupN_iff ord hb.2.1
    have hpre := hb.1
    refine ⟨_, _, gren g ord, hs, ⟨⟨r.H.keep, r.H.size, r.H.os, r.H.tape, r.H.output, r.H.F, r.H.Fin, fun j hj => ?_, fun j o hj => ?_, ?_⟩, fun t v ht => ?_, fun j hj => ?_, r.sz, r.df⟩⟩
    · have h0 := prefN_get pins ord j hpre (by rw [hpin]; simpa using hj)
      rw [hpin] at h0
      simp only [List.getElem?_range hj] at h0
      have h1 := r.H.pin j hj
      refine ⟨(List.getElem?_eq_some_iff.1 h0).1, ?_⟩
      rw [← h1.2]
      simp [gren, List.getD, h0]
    · obtain ⟨id, o', _, h2, h3, h4⟩ := renHeap_look ord h ord 0 j o hj
      rw [Nat.sub_zero] at h2
      subst h4
      exact ⟨(List.getElem?_eq_some_iff.1 h2).1, renObj_rel h2 (r.H.obj id o' h3).2⟩
    · intro j1 o1 j2 o2 b hj1 hj2 hm1 hm2 hb1 hb2
      obtain ⟨id1, p1, _, q2, q3, q4⟩ := renHeap_look ord h ord 0 j1 o1 hj1
      obtain ⟨id2, p2, _, s2, s3, s4⟩ := renHeap_look ord h ord 0 j2 o2 hj2
      rw [Nat.sub_zero] at q2 s2
      subst q4; subst s4
      rw [renObj_mut] at hm1 hm2
      have e1 : (gren g ord).anch j1 = g.anch id1 := by simp [gren, List.getD, q2]
      have e2 : (gren g ord).anch j2 = g.anch id2 := by simp [gren, List.getD, s2]
      rw [e1] at hb1
      rw [e2] at hb2
      have := r.H.sep id1 p1 id2 p2 b q3 s3 hm1 hm2 hb1 hb2
      subst this
      have l1 := (List.getElem?_eq_some_iff.1 q2)
      have l2 := (List.getElem?_eq_some_iff.1 s2)
      obtain ⟨l1a, l1b⟩ := l1
      obtain ⟨l2a, l2b⟩ := l2
      exact (List.getElem?_inj l1a hnd).1 (q2.trans s2.symm)
    · obtain ⟨u, hu, rfl⟩ := normEnv_look ord _ t v ht
      obtain ⟨x, h1, h2⟩ := r.E t u (keepEnv_look keep env t u hu)
      exact ⟨x, h1, renV_rel ord u x h2⟩
    · rw [renHeap_len ord h ord 0 hb.2.2]; exact hj
  · exact hs.elim
end
end Go.Eng
