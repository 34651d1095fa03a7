import Derived.Test.YtlfehkoklgmjjaaEngK
import Derived.Scope
/- A region, in the order of its text; names made canonical. -/
set_option linter.unusedVariables false
set_option linter.unusedSimpArgs false
namespace Go.Eng
open Go.RowKit (Below)

theorem forceN_eq (n : Nat) (k : Nat → Prop) : forceN n k = k n := by
  unfold forceN
  split <;> rfl
theorem forceL_eq {f : V → (V → Prop) → Prop} (hf : ∀ v k, f v k = k v) : ∀ (vs : List V) (k : List V → Prop), forceL f vs k = k vs
  | [], _ => rfl
  | v :: r, k => by
    simp only [forceL]
    rw [hf v]
    exact forceL_eq hf r _
theorem forceStep_eq {f : V → (V → Prop) → Prop} (hf : ∀ v k, f v k = k v) (v : V) (k : V → Prop) : forceStep f v k = k v := by
  unfold forceStep
  split
  all_goals first
    | rfl
    | (simp only [forceN_eq]; done)
    | exact forceL_eq hf _ _
    | (split <;> first | rfl | (rw [forceN_eq]))
theorem forceV_eq (v : V) (k : V → Prop) : forceV v k = k v :=
  forceStep_eq (forceStep_eq (forceStep_eq (forceStep_eq fun _ _ => rfl))) v k
theorem forceVs_eq (vs : List V) (k : List V → Prop) : forceVs vs k = k vs := forceL_eq forceV_eq vs k
theorem forceO_eq (o : Obj) (k : Obj → Prop) : forceO o k = k o := by
  cases o <;> simp only [forceO]
  exact forceVs_eq _ _
theorem forceH_eq : ∀ (h : Heap) (k : Heap → Prop), forceH h k = k h
  | [], _ => rfl
  | (n, o) :: r, k => by
    simp only [forceH, forceN_eq, forceO_eq]
    exact forceH_eq r _
theorem forceNews_eq : ∀ (n h : Heap) (k : Heap → Prop), forceNews n h k = k (n ++ h)
  | [], h, k => rfl
  | (n, o) :: r, h, k => by
    simp only [forceNews, forceN_eq, forceO_eq]
    exact forceNews_eq r h _
theorem forceE_eq : ∀ (e : Env) (k : Env → Prop), forceE e k = k e
  | [], _ => rfl
  | (n, v) :: r, k => by
    simp only [forceE, forceN_eq, forceV_eq]
    exact forceE_eq r _
theorem forcePs_eq : ∀ (l : List (Nat × Nat)) (k : List (Nat × Nat) → Prop), forcePs l k = k l
  | [], _ => rfl
  | (a, b) :: r, k => by
    simp only [forcePs, forceN_eq]
    exact forcePs_eq r _
theorem forceNs_eq : ∀ (l : List Nat) (k : List Nat → Prop), forceNs l k = k l
  | [], _ => rfl
  | n :: r, k => by
    simp only [forceNs, forceN_eq]
    exact forceNs_eq r _
theorem conj_out : ∀ {cs : List Prop} {K : Prop}, conj cs K → (∀ p ∈ cs, p) ∧ K
  | [], K, h => ⟨by simp, h⟩
  | c :: cs, K, h => by
    rw [conj_cons] at h
    obtain ⟨h1, h2⟩ := h
    obtain ⟨h3, h4⟩ := conj_out h2.out
    exact ⟨fun p hp => by
      rcases List.mem_cons.1 hp with rfl | hp
      · exact h1.out
      · exact h3 p hp, h4⟩

structure RelS (C : Cx) (N n : Nat) (env : Env) (h : Heap) (a : Act) (w : World) (g : Gh) : Prop where
  H : RelH C h w g
  E : RelE C env a.tmps w g
  ub : ∀ id, g.U id → id < n
  sz : a.tmps.size = N
  df : a.defers = []

section
variable {C : Cx} {w w' : World} {g g' : Gh} {h : Heap} {T : Tab} {S : Specs} {N n : Nat}

theorem put_sz (a : Act) (dst : Option Tmp) (x : Value) : (a.put dst x).tmps.size = a.tmps.size := by
  cases dst <;> simp [Act.put]
theorem put_df (a : Act) (dst : Option Tmp) (x : Value) : (a.put dst x).defers = a.defers := by
  cases dst <;> simp [Act.put]
theorem putK_eq (env : Env) (dst : Option Nat) (v : V) (k : Env → Prop) : putK env dst v k = k (putEnv env dst v) := by
  cases dst <;> rfl
def dstOk (N : Nat) (o : Oper) : Bool :=
  match o.dst with
  | some d => Nat.blt d N
  | none => true
theorem dstOk_lt {o : Oper} (h : dstOk N o = true) : ∀ d, o.dst = some d → d < N := by
  intro d hd
  simp only [dstOk, hd] at h
  exact Nat.le_of_ble_eq_true h

theorem RelS.next {env : Env} {a : Act} (r : RelS C N n env h a w g) {o : Oper} (hd : dstOk N o = true) {v : V} {x : Value} {h' : Heap} (q : WRes C w g n v h' x w' g') :
    RelS C N (n + 8) (putEnv env o.dst v) h' (a.put o.dst x) w' g' := by
  refine ⟨q.rel, (r.E.mono q.evo).put q.val (fun d hdd => by rw [r.sz]; exact dstOk_lt hd d hdd), fun id hi => ?_, by rw [put_sz]; exact r.sz, by rw [put_df]; exact r.df⟩
  rcases q.U id hi with h1 | h1
  · have := r.ub id h1; omega
  · omega
theorem RelS.fresh {env : Env} {a : Act} (r : RelS C N n env h a w g) : FreshIds g n := fun id h1 _ hU => by
  have := r.ub id hU; omega

theorem thenK_eq {o : Oper} {env : Env} {k : Env → Heap → Prop} {v : V} {h : Heap} (hs : thenK o env k v h) : k (putEnv env o.dst v) h := by
  unfold thenK at hs
  rwa [forceV_eq, putK_eq, forceH_eq] at hs
theorem stepC_sound (hT : TabOk C.P T) (hS : SpecsOk C.P S) {env : Env} {a : Act} (r : RelS C N n env h a w g) {o : Oper} {k : Env → Heap → Prop} (hs : stepC T S o n env h k)
    (K : Act → World → Prop) (Q : Exit → Act → World → Prop) (hk : ∀ x w' v h' g', k (putEnv env o.dst v) h' → WRes C w g n v h' x w' g' → K (a.put o.dst x) w') : o.wp C.P a w K Q := by
  unfold stepC at hs
  split at hs
  · rename_i args ts ho
    split at hs
    · rename_i s x t t' h1 h2
      have e1 : args = #[s, x] := by apply Array.ext'; simpa using h1
      have e2 : ts = #[t, t'] := by apply Array.ext'; simpa using h2
      subst e1; subst e2
      split at hs
      · rename_i hb
        obtain rfl := Nat.eq_of_beq_eq_true hb
        obtain ⟨val, w1, g1, v, h', h3, h4, h5⟩ := appendR_sound (ty := o.type) hT r.H r.fresh hs (rd_rel r.E s) (rd_rel r.E x)
        exact does_value (D := fun x w' => ∃ v h' g', k (putEnv env o.dst v) h' ∧ WRes C w g n v h' x w' g') (x := val) (w' := w1) (by simp [execOp, ho, resolve, invoke, builtin, h3]) ⟨v, h', g1, thenK_eq h4, h5⟩ K Q fun x w' ⟨v, h', g', q1, q2⟩ => hk x w' v h' g' q1 q2
      · obtain ⟨val, w1, g1, v, h', h3, h4, h5⟩ := appendZR_sound (ty := o.type) hT r.H r.fresh hs (rd_rel r.E s) (rd_rel r.E x)
        exact does_value (D := fun x w' => ∃ v h' g', k (putEnv env o.dst v) h' ∧ WRes C w g n v h' x w' g') (x := val) (w' := w1) (by simp [execOp, ho, resolve, invoke, builtin, h3]) ⟨v, h', g1, thenK_eq h4, h5⟩ K Q fun x w' ⟨v, h', g', q1, q2⟩ => hk x w' v h' g' q1 q2
    · exact hs.elim
  · rename_i f args ts ho
    have hx := rd_rel r.E f
    split at hs
    · rename_i fn caps hr
      rw [hr] at hx
      simp only [RV] at hx
      obtain ⟨cvs, he, hcaps⟩ := hx
      split at hs
      · rename_i s hsp
        rcases hS fn s hsp with ⟨hok, hfn⟩ | hX
        rotate_left
        · rw [hX.nok] at hs; exact hs.elim
        · have hcall := hok.cps C w g h n (args.toList.map (rd env) ++ caps) (args.toList.map a.eval ++ cvs) _ rfl r.H r.fresh r.ub (RVs_append (rds_rel r.E args.toList) hcaps) hs
          have hargs : (args.map a.eval) ++ cvs.toArray = (args.toList.map a.eval ++ cvs).toArray := by apply Array.ext'; simp
          exact does_enter (D := fun x w' => ∃ v h' g', k (putEnv env o.dst v) h' ∧ WRes C w g n v h' x w' g') (run_callValue ho he hfn) (by rw [hargs]; exact hcall.mono fun e w' ⟨x, g', v, h', h1, h2, h3⟩ => ⟨x, h1, v, h', g', thenK_eq h2, h3⟩) K Q fun x w' ⟨v, h', g', q1, q2⟩ => hk x w' v h' g' q1 q2
      · exact hs.elim
    · exact hs.elim
  · exact hs.elim
theorem stepK_sound (hT : TabOk C.P T) (hS : SpecsOk C.P S) {env : Env} {a : Act} (r : RelS C N n env h a w g) {o : Oper} (hd : dstOk N o = true) {k : Env → Heap → Prop} (hs : stepK T S o n env h k)
    (K : Act → World → Prop) (Q : Exit → Act → World → Prop) (hk : ∀ env' h' a' w' g', k env' h' → RelS C N (n + 8) env' h' a' w' g' → K a' w') : o.wp C.P a w K Q := by
  unfold stepK at hs
  split at hs
  · rename_i c v news hq
    obtain ⟨hc, hs⟩ := conj_out hs
    rw [forceV_eq, putK_eq, forceNews_eq] at hs
    exact stepQ_sound hT hS r.H r.fresh r.E hq hc K Q fun x w' ⟨g', q⟩ => hk _ _ _ _ g' hs (r.next hd (q.wres r.H))
  · split at hs
    · rename_i c v h' hq
      obtain ⟨hc, hs⟩ := conj_out hs
      rw [forceV_eq, putK_eq, forceH_eq] at hs
      exact stepW_sound hT hS r.H r.fresh r.E hq hc K Q fun x w' ⟨g', q⟩ => hk _ _ _ _ g' hs (r.next hd q)
    · exact stepC_sound hT hS r hs K Q fun x w' v h' g' hk' q => hk _ _ _ _ g' hk' (r.next hd q)

theorem split_sound {env : Env} {tmps : Array Value} (E : RelE C env tmps w g) {d : Nat} {k : Env → Prop} (hs : splitSlot env d k) : ∃ env', RelE C env' tmps w g ∧ k env' := by
  unfold splitSlot at hs
  split at hs
  · rename_i x hl
    obtain ⟨y, h1, h2⟩ := E d _ hl
    have ext : ∀ z, x = z → RelE C ((d, .bl z) :: env) tmps w g := fun z hz t v ht => by
      simp only [lookN] at ht
      cases hb : Nat.beq d t
      · rw [hb] at ht; exact E t v ht
      · rw [hb] at ht
        simp only [Option.some.injEq] at ht
        obtain rfl := Nat.eq_of_beq_eq_true hb
        subst ht; subst hz
        exact ⟨y, h1, by simpa [RV] using h2⟩
    cases x
    · exact ⟨_, ext false rfl, (hs.2 rfl).out⟩
    · exact ⟨_, ext true rfl, (hs.1 rfl).out⟩
  · exact ⟨env, E, hs⟩

theorem yielded_of {env : Env} {a : Act} (E : RelE C env a.tmps w g) {all : Array Oper} {j d : Nat} (hj : guardSlot all j = some d) {y : Bool} (hl : lookN env d = some (.bl y)) : yielded all a.tmps j = some y := by
  obtain ⟨x, h1, h2⟩ := E d _ hl
  simp only [RV] at h2
  subst h2
  unfold guardSlot at hj
  unfold yielded
  cases ho : all[j]? with
  | none => simp [ho] at hj
  | some o =>
    simp only [ho] at hj
    simp [hj, h1]

theorem yielded_none {env : Env} {a : Act} (E : RelE C env a.tmps w g) {all : Array Oper} {j d : Nat} (hj : guardSlot all j = some d) (hl : lookN env d = some (.tup [])) : yielded all a.tmps j = none := by
  obtain ⟨x, h1, h2⟩ := E d _ hl
  simp only [RV] at h2
  obtain ⟨vs, rfl, _⟩ := h2
  unfold guardSlot at hj
  unfold yielded
  cases ho : all[j]? with
  | none => simp [ho] at hj
  | some o =>
    simp only [ho] at hj
    simp [hj, h1]

theorem vop_sound {env : Env} {a : Act} (E : RelE C env a.tmps w g) {all : Array Oper} {o : Oper} {run skip : Env → Prop} (hs : vop all o env run skip) :
    (∃ env', RelE C env' a.tmps w g ∧ Region.wanted o (yielded all a.tmps) = true ∧ run env') ∨
    (∃ env', RelE C env' a.tmps w g ∧ Region.wanted o (yielded all a.tmps) = false ∧ skip (putEnv env' o.dst (.tup []))) := by
  have go : ∀ env, RelE C env a.tmps w g → (match pickSlot o with | some d => splitSlot env d run | none => run env) → ∃ env', RelE C env' a.tmps w g ∧ run env' := by
    intro env E hs
    split at hs
    · exact split_sound E hs
    · exact ⟨env, E, hs⟩
  unfold vop at hs
  dsimp only at hs
  split at hs
  · rename_i hg
    obtain ⟨env', h1, h2⟩ := go env E hs
    exact .inl ⟨env', h1, by simp [Region.wanted, hg], h2⟩
  · rename_i j want hg
    split at hs
    · exact hs.elim
    · rename_i d hd
      obtain ⟨env1, E1, hs⟩ := split_sound E hs
      split at hs
      · rename_i y hl
        have hy := yielded_of E1 hd hl
        split at hs
        · rename_i hb
          obtain ⟨env', h1, h2⟩ := go env1 E1 hs
          refine .inl ⟨env', h1, ?_, h2⟩
          simp only [Region.wanted, hg, hy]
          cases y <;> cases want <;> simp [boolEq] at hb ⊢
        · rename_i hb
          rw [putK_eq] at hs
          refine .inr ⟨env1, E1, ?_, hs⟩
          simp only [Region.wanted, hg, hy]
          cases y <;> cases want <;> simp [boolEq] at hb ⊢
      · rename_i hl
        rw [putK_eq] at hs
        refine .inr ⟨env1, E1, ?_, hs⟩
        simp only [Region.wanted, hg, yielded_none E1 hd hl]
        rfl
      · exact hs.elim

theorem RelS.skip {env : Env} {a : Act} (r : RelS C N n env h a w g) {env' : Env} (E : RelE C env' a.tmps w g) {o : Oper} (hd : dstOk N o = true) {m : Nat} (hm : n ≤ m) :
    RelS C N m (putEnv env' o.dst (.tup [])) h (a.put o.dst undef) w g :=
  ⟨r.H, E.put (by simp only [RV]; exact ⟨[], rfl, rfl⟩) (fun d hdd => by rw [r.sz]; exact dstOk_lt hd d hdd), fun id hi => Nat.lt_of_lt_of_le (r.ub id hi) hm, by rw [put_sz]; exact r.sz, by rw [put_df]; exact r.df⟩

theorem nilCmp_sound (hT : TabOk C.P T) {env : Env} {a : Act} (r : RelS C N n env h a w g) {o : Oper} {p : Bool} {q : Prop} (hs : nilCmp T o env h = some (p, q)) :
    ∃ b : Bool, (b = true → q) ∧ (execOp a.eval o).run C.P w = .ok (.value (.bool (b == p))) w := by
  unfold nilCmp at hs
  split at hs
  · rename_i op t x yt ho
    split at hs
    · rename_i e _ _ _ _ _ hti
      obtain ⟨inf, u, z, g1, g2, g3, g4, g5⟩ := ti_of hT hti
      obtain rfl := und_slice g4
      have hx := rd_rel r.E x
      have guard : ∀ (A : Option Addr) (m c : Nat) (op : BinOp), (eqGuard op t x (.const (.slice none 0 0)) (.slice A m c) (.slice none 0 0)).run C.P w = .ok () w := by
        intro A m c op
        unfold eqGuard
        cases op <;> simp
      have main : ∀ (A : Option Addr) (m c : Nat), a.eval x = .slice A m c → (A = none → q) → ((op = .eql ∧ p = true) ∨ (op = .neq ∧ p = false)) → ∃ b : Bool, (b = true → q) ∧ (execOp a.eval o).run C.P w = .ok (.value (.bool (b == p))) w := by
        intro A m c hA hq hop
        refine ⟨A.isNone, fun hb => hq (by simpa using hb), ?_⟩
        rcases hop with ⟨rfl, rfl⟩ | ⟨rfl, rfl⟩
        · have h1 : (binOp .eql t (.slice A m c) (.slice none 0 0)).run C.P w = .ok (.bool A.isNone) w := by
            simp only [binOp]
            simp [show (Op.equal t (.slice A m c) (.slice none 0 0)).run C.P w = .ok A.isNone w from equalIn_slice_nil 9999 t e A m c g2]
          simp [execOp, ho, Act.eval, guard, h1] at hA ⊢
          simp [hA, guard, h1]
        · have h1 : (binOp .neq t (.slice A m c) (.slice none 0 0)).run C.P w = .ok (.bool (!A.isNone)) w := by
            simp only [binOp]
            simp [show (Op.equal t (.slice A m c) (.slice none 0 0)).run C.P w = .ok A.isNone w from equalIn_slice_nil 9999 t e A m c g2]
          simp [execOp, ho, Act.eval, guard, h1] at hA ⊢
          simp [hA, guard, h1]
      have arr : ∀ (id : Nat) te e' xs, lookN h id = some (.arr te e' xs) → RV C w g (.own id) (a.eval x) → ∃ A m c, a.eval x = .slice A m c ∧ (A = none → xs.length = 0) := by
        intro id te e' xs hl hv
        obtain ⟨A, cap, cells, q1⟩ := view_of_arr (r.H.obj id _ hl).2
        simp only [RV] at hv
        refine ⟨A, _, _, by rw [hv.2.1]; exact q1.val, fun hA => ?_⟩
        have := q1.nil hA
        have := q1.le
        omega
      have sl : ∀ e' xs, RV C w g (.sl e' xs) (a.eval x) → ∃ A m c, a.eval x = .slice A m c ∧ (A = none → xs.length = 0) := by
        intro e' xs hv
        simp only [RV, rep] at hv
        obtain ⟨A, cap, h1, h2, h3, h4, _⟩ := hv
        simp only [List.cons.injEq, and_true] at h1
        exact ⟨A, _, _, h1, fun hA => by have := h4 hA; omega⟩
      split at hs
      · split at hs
        · rename_i e' xs hr
          simp only [Option.some.injEq, Prod.mk.injEq] at hs
          obtain ⟨rfl, rfl⟩ := hs
          rw [hr] at hx
          obtain ⟨A, m, c, h1, h2⟩ := sl _ _ hx
          exact main A m c h1 h2 (.inl ⟨rfl, rfl⟩)
        · rename_i id hr
          split at hs
          · rename_i te e' xs hl
            simp only [Option.some.injEq, Prod.mk.injEq] at hs
            obtain ⟨rfl, rfl⟩ := hs
            rw [hr] at hx
            obtain ⟨A, m, c, h1, h2⟩ := arr _ _ _ _ hl hx
            exact main A m c h1 h2 (.inl ⟨rfl, rfl⟩)
          · simp at hs
        · simp at hs
      · split at hs
        · rename_i e' xs hr
          simp only [Option.some.injEq, Prod.mk.injEq] at hs
          obtain ⟨rfl, rfl⟩ := hs
          rw [hr] at hx
          obtain ⟨A, m, c, h1, h2⟩ := sl _ _ hx
          exact main A m c h1 h2 (.inr ⟨rfl, rfl⟩)
        · rename_i id hr
          split at hs
          · rename_i te e' xs hl
            simp only [Option.some.injEq, Prod.mk.injEq] at hs
            obtain ⟨rfl, rfl⟩ := hs
            rw [hr] at hx
            obtain ⟨A, m, c, h1, h2⟩ := arr _ _ _ _ hl hx
            exact main A m c h1 h2 (.inr ⟨rfl, rfl⟩)
          · simp at hs
        · simp at hs
      · simp at hs
    · simp at hs
  · simp at hs
theorem stepKN_sound (hT : TabOk C.P T) (hS : SpecsOk C.P S) {env : Env} {a : Act} (r : RelS C N n env h a w g) {o : Oper} (hd : dstOk N o = true) {k : Env → Heap → Prop} (hs : stepKN T S o n env h k)
    (K : Act → World → Prop) (Q : Exit → Act → World → Prop) (hk : ∀ env' h' a' w' g', k env' h' → RelS C N (n + 8) env' h' a' w' g' → K a' w') : o.wp C.P a w K Q := by
  unfold stepKN at hs
  split at hs
  · rename_i p q hq
    obtain ⟨b, hb1, hb2⟩ := nilCmp_sound hT r hq
    have fin : ∀ v : Bool, (b == p) = v → (putK env o.dst (.bl v) fun env => k env h) → o.wp C.P a w K Q := fun v hv hk' => by
      rw [putK_eq] at hk'
      have D : Does C.P o a w fun x w' => ∃ g', QRes C w g n (.bl v) [] x w' g' := does_value (x := .bool (b == p)) (w' := w) hb2 ⟨g, QRes.pure (by simp [RV, hv])⟩
      exact D K Q fun x w' ⟨g', qq⟩ => hk _ _ _ _ g' hk' (r.next hd (qq.wres r.H))
    cases b
    · refine fin _ ?_ hs.2.out
      cases p <;> rfl
    · refine fin _ ?_ (hs.1 (hb1 rfl)).out
      cases p <;> rfl
  · exact stepK_sound hT hS r hd hs K Q hk
theorem vops_sound (hT : TabOk C.P T) (hS : SpecsOk C.P S) {all : Array Oper} {Q : Exit → Act → World → Prop} {K : Env → Heap → Prop} (hK : ∀ m env h a w g, K env h → RelS C N m env h a w g → Q .normal a w) :
    ∀ (ops : List Oper) (n : Nat) (env : Env) (h : Heap) (a : Act) (w : World) (g : Gh), (∀ o ∈ ops, dstOk N o = true) → vops T S all n ops env h K → RelS C N n env h a w g → wpList C.P all Q ops a w
  | [], n, env, h, a, w, g, _, hs, r => hK n env h a w g hs r
  | o :: rest, n, env, h, a, w, g, hd, hs, r => by
    have hdo := hd o (by simp)
    have hdr : ∀ o ∈ rest, dstOk N o = true := fun o ho => hd o (by simp [ho])
    rw [vops_cons] at hs
    refine wpList_step fun K' hK' => ?_
    rcases vop_sound r.E hs with ⟨env', E', hw, hs⟩ | ⟨env', E', hw, hs⟩
    · rw [if_pos hw]
      have r' : RelS C N n env' h a w g := ⟨r.H, E', r.ub, r.sz, r.df⟩
      refine stepKN_sound hT hS r' hdo hs K' Q fun env2 h2 a2 w2 g2 hk r2 => hK' _ _ ?_
      rw [forceN_eq] at hk
      exact vops_sound hT hS hK rest (n + 8) env2 h2 a2 w2 g2 hdr hk r2
    · rw [hw]
      simp only [Bool.false_eq_true, if_false]
      rw [forceN_eq] at hs
      exact hK' _ _ (vops_sound hT hS hK rest (n + 8) _ h _ w g hdr hs (r.skip E' hdo (by omega)))

/-! ## Names made canonical -/
theorem idxN_get : ∀ (l : List Nat) (id j : Nat), idxN l id = some j → l[j]? = some id
  | [], id, j, h => by simp [idxN] at h
  | a :: r, id, j, h => by
    simp only [idxN] at h
    cases hb : Nat.beq a id
    · rw [hb] at h
      simp only at h
      cases hr : idxN r id with
      | none => simp [hr] at h
      | some k =>
        simp only [hr, Option.some.injEq] at h
        subst h
        simpa using idxN_get r id k hr
    · rw [hb] at h
      simp only [Option.some.injEq] at h
      subst h
      obtain rfl := Nat.eq_of_beq_eq_true hb
      rfl
/-- The old name behind a new one. -/
def oldN : List (Nat × Nat) → Nat → Option Nat
  | [], _ => none
  | (n, j') :: r, j => if j' = j then some n else oldN r j
theorem lookN_mem {α : Type} : ∀ (l : List (Nat × α)) (id : Nat) (j : α), lookN l id = some j → (id, j) ∈ l
  | [], id, j, h => by simp [lookN] at h
  | (a, b) :: r, id, j, h => by
    simp only [lookN] at h
    cases hb : Nat.beq a id
    · rw [hb] at h; exact List.mem_cons_of_mem _ (lookN_mem r id j h)
    · rw [hb] at h
      simp only [Option.some.injEq] at h
      obtain rfl := Nat.eq_of_beq_eq_true hb
      subst h; exact List.mem_cons_self
theorem oldN_mem : ∀ {l : List (Nat × Nat)} {id j : Nat}, (l.map (·.2)).Nodup → (id, j) ∈ l → oldN l j = some id
  | (n, j') :: r, id, j, hnd, hm => by
    simp only [List.map_cons, List.nodup_cons] at hnd
    simp only [oldN]
    rcases List.mem_cons.1 hm with h | h
    · simp only [Prod.mk.injEq] at h
      rw [if_pos h.2.symm, h.1]
    · have : ¬ j' = j := fun e => hnd.1 (by rw [e]; exact List.mem_map.2 ⟨_, h, rfl⟩)
      rw [if_neg this]
      exact oldN_mem hnd.2 h
def gren (g : Gh) (ord : List (Nat × Nat)) : Gh := ⟨fun j => g.anch ((oldN ord j).getD 0), g.F, fun j => ∃ id, (id, j) ∈ ord⟩
theorem gren_mem {ord : List (Nat × Nat)} (hnd : (ord.map (·.2)).Nodup) {id j : Nat} (h : (id, j) ∈ ord) : (gren g ord).anch j = g.anch id ∧ (gren g ord).U j :=
  ⟨by simp [gren, oldN_mem hnd h], id, h⟩
theorem gren_anch {ord : List (Nat × Nat)} (hnd : (ord.map (·.2)).Nodup) {id j : Nat} (h : lookN ord id = some j) : (gren g ord).anch j = g.anch id ∧ (gren g ord).U j := gren_mem hnd (lookN_mem _ _ _ h)
theorem renL_rel {g2 : Gh} {f : V → V} (hf : ∀ v x, RV C w g v x → RV C w g2 (f v) x) : ∀ (cs : List V) (vs : List Value), RVs C w g cs vs → RVs C w g2 (renL f cs) vs
  | [], _, h => by simp only [renL, RVs] at h ⊢; exact h
  | c :: cs, _, h => by
    simp only [renL, RVs] at h ⊢
    obtain ⟨x, xs, h1, h2, h3⟩ := h
    exact ⟨x, xs, h1, hf c x h2, renL_rel hf cs xs h3⟩
theorem renStep_rel {ord : List (Nat × Nat)} (hnd : (ord.map (·.2)).Nodup) {f : V → V} (hf : ∀ v x, RV C w g v x → RV C w (gren g ord) (f v) x) (v : V) (x : Value) (h : RV C w g v x) : RV C w (gren g ord) (renStep ord f v) x := by
  cases v <;> simp only [renStep]
  case any => simp [RV]
  case own id =>
    cases hi : lookN ord id with
    | none => simp [RV]
    | some j =>
      simp only [RV] at h ⊢
      exact ⟨(gren_anch (g := g) hnd hi).2, by rw [(gren_anch (g := g) hnd hi).1]; exact h.2.1, h.2.2⟩
  case ptr id col =>
    cases hi : lookN ord id with
    | none => simp [RV]
    | some j =>
      simp only [RV] at h ⊢
      exact ⟨(gren_anch (g := g) hnd hi).2, by rw [(gren_anch (g := g) hnd hi).1]; exact h.2⟩
  case ep id e r c =>
    cases hi : lookN ord id with
    | none => simp [RV]
    | some j =>
      simp only [RV] at h ⊢
      exact ⟨(gren_anch (g := g) hnd hi).2, by rw [(gren_anch (g := g) hnd hi).1]; exact h.2⟩
  case mp id =>
    cases hi : lookN ord id with
    | none => simp [RV]
    | some j =>
      simp only [RV] at h ⊢
      exact ⟨(gren_anch (g := g) hnd hi).2, by rw [(gren_anch (g := g) hnd hi).1]; exact h.2⟩
  case vw id e lo n fl =>
    cases hi : lookN ord id with
    | none => simp [RV]
    | some j =>
      simp only [RV] at h ⊢
      exact ⟨(gren_anch (g := g) hnd hi).2, by rw [(gren_anch (g := g) hnd hi).1]; exact h.2⟩
  case fn g' cs =>
    simp only [RV] at h ⊢
    obtain ⟨vs, h1, h2⟩ := h
    exact ⟨vs, h1, renL_rel hf cs vs h2⟩
  case agg cs =>
    simp only [RV] at h ⊢
    obtain ⟨vs, h1, h2⟩ := h
    exact ⟨vs, h1, renL_rel hf cs vs h2⟩
  case tup cs =>
    simp only [RV] at h ⊢
    obtain ⟨vs, h1, h2⟩ := h
    exact ⟨vs, h1, renL_rel hf cs vs h2⟩
  case rp cs =>
    simp only [RV] at h ⊢
    obtain ⟨a, vs, h1, h2, h3, h4⟩ := h
    exact ⟨a, vs, h1, h2, h3, renL_rel hf cs vs h4⟩
  all_goals (simp only [RV] at h ⊢; exact h)
theorem renV_rel {ord : List (Nat × Nat)} (hnd : (ord.map (·.2)).Nodup) : ∀ (v : V) (x : Value), RV C w g v x → RV C w (gren g ord) (renV ord v) x :=
  renStep_rel hnd (renStep_rel hnd (renStep_rel hnd (renStep_rel hnd fun _ _ _ => by simp [RV])))
theorem renVs_rel {ord : List (Nat × Nat)} (hnd : (ord.map (·.2)).Nodup) (cs : List V) (vs : List Value) (h : RVs C w g cs vs) : RVs C w (gren g ord) (renVs ord cs) vs := renL_rel (renV_rel hnd) cs vs h
theorem renObj_rel {ord : List (Nat × Nat)} (hnd : (ord.map (·.2)).Nodup) {id j : Nat} (hj : (id, j) ∈ ord) {o : Obj} (h : RO C w g id o) : RO C w (gren g ord) j (renObj ord o) := by
  have ha : (gren g ord).anch j = g.anch id := (gren_mem hnd hj).1
  cases o with
  | box cs =>
    obtain ⟨blk, vs, te, h1, h2, h3, h4, h5⟩ := h
    exact ⟨blk, vs, te, by rw [ha]; exact h1, h2, renVs_rel hnd _ _ h3, h4, h5⟩
  | arr te e xs =>
    obtain ⟨cells, h1, h2, h3, h4⟩ := h
    exact ⟨cells, by rw [ha]; exact h1, h2, h3, fun b hb => h4 b (by rw [ha] at hb; exact hb)⟩
  | ice e xs =>
    simp only [renObj, RO] at h ⊢
    rw [ha]; exact h
  | map a b l =>
    simp only [renObj, RO] at h ⊢
    rw [ha]; exact h
  | raw te e xs =>
    simp only [renObj, RO] at h ⊢
    rw [ha]; exact h
theorem renObj_mut (ord : List (Nat × Nat)) (o : Obj) : (renObj ord o).mut = o.mut := by cases o <;> rfl
theorem renHeap_look (ord : List (Nat × Nat)) (h : Heap) : ∀ (l : List (Nat × Nat)) (k : Nat) (o : Obj), lookN (renHeap ord h l) k = some o → ∃ id o', (id, k) ∈ l ∧ lookN h id = some o' ∧ o = renObj ord o'
  | [], k, o, hk => by simp [renHeap, lookN] at hk
  | (n, j) :: r, k, o, hk => by
    have rec1 : lookN (renHeap ord h r) k = some o → ∃ id o', (id, k) ∈ (n, j) :: r ∧ lookN h id = some o' ∧ o = renObj ord o' := fun hk => by
      obtain ⟨id, o', h1, h2, h3⟩ := renHeap_look ord h r k o hk
      exact ⟨id, o', List.mem_cons_of_mem _ h1, h2, h3⟩
    simp only [renHeap] at hk
    split at hk
    · rename_i o1 ho1
      simp only [lookN] at hk
      cases hb : Nat.beq j k
      · rw [hb] at hk; exact rec1 hk
      · rw [hb] at hk
        simp only [Option.some.injEq] at hk
        obtain rfl := Nat.eq_of_beq_eq_true hb
        exact ⟨n, o1, List.mem_cons_self, ho1, hk.symm⟩
    · exact rec1 hk
theorem renHeap_len (ord : List (Nat × Nat)) (h : Heap) : ∀ (l : List (Nat × Nat)), presN h (l.map (·.1)) = true → (renHeap ord h l).length = l.length
  | [], _ => rfl
  | (n, j) :: r, hp => by
    simp only [List.map_cons, presN] at hp
    simp only [renHeap]
    cases ho : lookN h n with
    | none => simp [ho] at hp
    | some o => simp only [ho] at hp; simp [renHeap_len ord h r hp]
/-! The names: the first ones keep theirs, the others are counted. -/
theorem nameL_fst : ∀ (k b : Nat) (l : List Nat), (nameL k b l).map (·.1) = l
  | _, _, [] => by simp [nameL]
  | 0, b, n :: r => by simp [nameL, nameL_fst 0 (b + 1) r]
  | k + 1, b, n :: r => by simp [nameL, nameL_fst k b r]
theorem nameL_snd : ∀ (k b : Nat) (l : List Nat), (nameL k b l).map (·.2) = l.take k ++ (List.range' b (l.length - k))
  | _, _, [] => by simp [nameL]
  | 0, b, n :: r => by
    simp only [nameL, List.map_cons, nameL_snd 0 (b + 1) r]
    simp [List.range'_succ]
  | k + 1, b, n :: r => by
    simp only [nameL, List.map_cons, nameL_snd k b r]
    simp
theorem nameL_pin : ∀ (k b : Nat) (l : List Nat) (i : Nat), i < k → ∀ n, l[i]? = some n → (n, n) ∈ nameL k b l
  | 0, _, _, _, h, _, _ => by omega
  | k + 1, b, [], i, _, n, hn => by simp at hn
  | k + 1, b, m :: r, 0, _, n, hn => by simp at hn; subst hn; simp [nameL]
  | k + 1, b, m :: r, i + 1, h, n, hn => by
    simp only [nameL]
    exact List.mem_cons_of_mem _ (nameL_pin k b r i (by omega) n (by simpa using hn))
theorem allLt_iff : ∀ (b : Nat) (l : List Nat), allLt b l = true → ∀ a ∈ l, a < b
  | _, [], _, a, h => by simp at h
  | b, c :: r, hs, a, h => by
    simp only [allLt] at hs
    split at hs
    · rename_i hb
      rcases List.mem_cons.1 h with rfl | h
      · exact Nat.le_of_ble_eq_true hb
      · exact allLt_iff b r hs a h
    · simp at hs
theorem memN_iff : ∀ (l : List Nat) (n : Nat), memN l n = true ↔ n ∈ l
  | [], n => by simp [memN]
  | a :: r, n => by
    simp only [memN]
    cases hb : Nat.beq a n
    · have : a ≠ n := fun e => by subst e; simp at hb
      simp only [memN_iff r n, List.mem_cons]
      constructor
      · exact .inr
      · rintro (h | h)
        · exact absurd h.symm this
        · exact h
    · obtain rfl := Nat.eq_of_beq_eq_true hb
      simp
theorem nodupN_iff : ∀ (l : List Nat), nodupN l = true → l.Nodup
  | [], _ => by simp
  | a :: r, h => by
    simp only [nodupN] at h
    cases hm : memN r a
    · rw [hm] at h
      simp only at h
      refine List.nodup_cons.2 ⟨fun hmem => ?_, nodupN_iff r h⟩
      have := (memN_iff r a).2 hmem
      rw [hm] at this; simp at this
    · rw [hm] at h; simp at h
theorem keepEnv_look : ∀ (keep : List Nat) (env : Env) (t : Nat) (v : V), lookN (keepEnv env keep) t = some v → lookN env t = some v
  | [], env, t, v, h => by simp [keepEnv, lookN] at h
  | k :: r, env, t, v, h => by
    simp only [keepEnv] at h
    split at h
    · rename_i u hu
      simp only [lookN] at h
      cases hb : Nat.beq k t
      · rw [hb] at h; exact keepEnv_look r env t v h
      · rw [hb] at h
        simp only [Option.some.injEq] at h
        obtain rfl := Nat.eq_of_beq_eq_true hb
        subst h
        exact hu
    · exact keepEnv_look r env t v h
theorem normEnv_look (ord : List (Nat × Nat)) : ∀ (env : Env) (t : Nat) (v : V), lookN (normEnv ord env) t = some v → ∃ u, lookN env t = some u ∧ v = renV ord u
  | [], t, v, h => by simp [normEnv, lookN] at h
  | (k, u) :: r, t, v, h => by
    simp only [normEnv, lookN] at h
    simp only [lookN]
    cases hb : Nat.beq k t
    · rw [hb] at h; exact normEnv_look ord r t v h
    · rw [hb] at h
      simp only [Option.some.injEq] at h
      exact ⟨u, rfl, h.symm⟩

theorem closeK_out {h : Heap} {k : List Nat → Prop} : ∀ (n : Nat) (l : List Nat), closeK h n l k → ∃ ord, k ord
  | 0, l, hs => ⟨l, hs⟩
  | n + 1, l, hs => by
    simp only [closeK] at hs
    rw [forceNs_eq] at hs
    split at hs
    · exact ⟨l, hs⟩
    · exact closeK_out n _ hs
theorem prefN_get : ∀ (l m : List Nat) (j : Nat), prefN l m = true → j < l.length → m[j]? = l[j]?
  | [], m, j, _, hj => by simp at hj
  | a :: r, [], j, h, _ => by simp [prefN] at h
  | a :: r, b :: s, j, h, hj => by
    simp only [prefN] at h
    split at h
    · rename_i hb
      obtain rfl := Nat.eq_of_beq_eq_true hb
      cases j with
      | zero => rfl
      | succ j => simpa using prefN_get r s j h (by simpa using hj)
    · cases h
theorem prefN_take : ∀ (l m : List Nat), prefN l m = true → m.take l.length = l
  | [], m, _ => by simp
  | a :: r, [], h => by simp [prefN] at h
  | a :: r, b :: s, h => by
    simp only [prefN] at h
    split at h
    · rename_i hb
      obtain rfl := Nat.eq_of_beq_eq_true hb
      simp [prefN_take r s h]
    · cases h
theorem normK_sound {pins : Pins} (hpin : pins = C.pins) {keep : List Nat} {env : Env} {a : Act} (r : RelS C N n env h a w g) {K : St → Prop} (hs : normK pins keep env h K) : ∃ env' h' g', K ⟨env', h'⟩ ∧ RelS C N (frN pins h') env' h' a w g' := by
  unfold normK at hs
  rw [forceE_eq, forceNs_eq] at hs
  obtain ⟨ord0, hs⟩ := closeK_out _ _ hs
  split at hs
  · rename_i hb
    rw [forcePs_eq, forceE_eq, forceH_eq] at hs
    simp only [Bool.and_eq_true] at hb
    have hnd0 := nodupN_iff ord0 hb.2.1
    have hpre := prefN_take _ _ hb.1.2
    have hlt := allLt_iff _ _ hb.1.1
    have hle : pins.1.length ≤ ord0.length := by
      have := congrArg List.length hpre
      simp at this; omega
    have hnd : ((nameL pins.1.length pins.2 ord0).map (·.2)).Nodup := by
      rw [nameL_snd, hpre, List.nodup_append]
      refine ⟨?_, List.nodup_range', fun x hx y hy he => ?_⟩
      · rw [← hpre]; exact hnd0.sublist (List.take_sublist _ _)
      · have := hlt x hx
        rw [List.mem_range'] at hy
        obtain ⟨i, _, hy⟩ := hy
        omega
    have hfst := nameL_fst pins.1.length pins.2 ord0
    have hlenN : (nameL pins.1.length pins.2 ord0).length = ord0.length := by rw [← List.length_map (f := (·.1)), hfst]
    have hpres : presN h ((nameL pins.1.length pins.2 ord0).map (·.1)) = true := by rw [hfst]; exact hb.2.2
    have hsnd := nameL_snd pins.1.length pins.2 ord0
    revert hs
    generalize nameL pins.1.length pins.2 ord0 = ord at hnd hfst hlenN hpres hsnd ⊢
    intro hs
    have hidnd : ∀ {i j j' : Nat}, (i, j) ∈ ord → (i, j') ∈ ord → j = j' := fun {i j j'} h1 h2 => by
      obtain ⟨p, hp1, hp2⟩ := List.mem_iff_getElem.1 h1
      obtain ⟨q, hq1, hq2⟩ := List.mem_iff_getElem.1 h2
      have e1 : (ord.map (·.1))[p]? = some i := by simp [hp1, hp2]
      have e2 : (ord.map (·.1))[q]? = some i := by simp [hq1, hq2]
      rw [hfst] at e1 e2
      have hp0 : p < ord0.length := by omega
      have := (List.getElem?_inj hp0 hnd0).1 (e1.trans e2.symm)
      subst this
      rw [hp2] at hq2
      simp at hq2; exact hq2
    refine ⟨_, _, gren g ord, hs, ⟨⟨r.H.keep, r.H.size, r.H.os, r.H.tape, r.H.output, r.H.F, r.H.Fin, fun j hj => ?_, r.H.lam, fun j o hj => ?_, ?_⟩, fun t v ht => ?_, fun j hj => ?_, r.sz, r.df⟩⟩
    · rw [← hpin] at hj
      have h1 := r.H.pin j (by rw [← hpin]; exact hj)
      obtain ⟨i, hi1, hi2⟩ := List.mem_iff_getElem.1 hj
      have hmem : (j, j) ∈ ord := by
        have e1 : ord0[i]? = some j := by
          have : (ord0.take pins.1.length)[i]? = some j := by rw [hpre]; simp [hi1, hi2]
          rwa [List.getElem?_take_of_lt hi1] at this
        have e2 : (ord.map (·.2))[i]? = some j := by
          rw [hsnd, hpre, List.getElem?_append_left hi1]; simp [hi1, hi2]
        have e3 : (ord.map (·.1))[i]? = some j := by rw [hfst]; exact e1
        simp only [List.getElem?_map, Option.map_eq_some_iff] at e2 e3
        obtain ⟨⟨a1, b1⟩, q1, q2⟩ := e2
        obtain ⟨⟨a2, b2⟩, q3, q4⟩ := e3
        rw [q1] at q3
        simp at q3 q2 q4
        obtain ⟨rfl, rfl⟩ := q3
        subst q2; subst q4
        exact List.mem_iff_getElem?.2 ⟨i, q1⟩
      exact ⟨⟨j, hmem⟩, by rw [(gren_mem hnd hmem).1]; exact h1.2⟩
    · obtain ⟨id, o', h2, h3, h4⟩ := renHeap_look ord h ord j o hj
      subst h4
      exact ⟨⟨id, h2⟩, renObj_rel hnd h2 (r.H.obj id o' h3).2⟩
    · intro j1 o1 j2 o2 b hj1 hj2 hm1 hm2 hb1 hb2
      obtain ⟨id1, p1, q2, q3, q4⟩ := renHeap_look ord h ord j1 o1 hj1
      obtain ⟨id2, p2, s2, s3, s4⟩ := renHeap_look ord h ord j2 o2 hj2
      subst q4; subst s4
      rw [renObj_mut] at hm1 hm2
      rw [(gren_mem (g := g) hnd q2).1] at hb1
      rw [(gren_mem (g := g) hnd s2).1] at hb2
      have := r.H.sep id1 p1 id2 p2 b q3 s3 hm1 hm2 hb1 hb2
      subst this
      exact hidnd q2 s2
    · obtain ⟨u, hu, rfl⟩ := normEnv_look ord _ t v ht
      obtain ⟨x, h1, h2⟩ := r.E t u (keepEnv_look keep env t u hu)
      exact ⟨x, h1, renV_rel hnd u x h2⟩
    · unfold frN
      rw [renHeap_len ord h ord hpres, hlenN]
      obtain ⟨id, hm⟩ := hj
      have : j ∈ ord.map (·.2) := List.mem_map.2 ⟨_, hm, rfl⟩
      rw [hsnd, hpre] at this
      rcases List.mem_append.1 this with h1 | h1
      · have := hlt j h1; omega
      · rw [List.mem_range'] at h1
        obtain ⟨i, h2, h3⟩ := h1
        omega
  · exact hs.elim
end
end Go.Eng
