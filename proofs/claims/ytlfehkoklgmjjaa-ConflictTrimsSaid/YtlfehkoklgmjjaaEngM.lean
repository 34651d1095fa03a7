import Derived.Test.YtlfehkoklgmjjaaEngL
import Derived.Orders
import Derived.StillTail
/- A region that draws its order. -/
set_option linter.unusedVariables false
set_option linter.unusedSimpArgs false
namespace Go.Eng
open Go.RowKit (Below)

/-! ## What stands ahead -/
theorem or_bits {l : List Edge} (f : Edge → Nat) : ∀ (s j : Nat), (l.foldl (fun s e => s ||| f e) s).testBit j = true → s.testBit j = true ∨ ∃ e ∈ l, (f e).testBit j = true := by
  induction l with
  | nil => intro s j h; exact .inl h
  | cons e l ih =>
    intro s j h
    simp only [List.foldl_cons] at h
    rcases ih _ _ h with h1 | ⟨e', h1, h2⟩
    · rw [Nat.testBit_or, Bool.or_eq_true] at h1
      rcases h1 with h1 | h1
      · exact .inl h1
      · exact .inr ⟨e, by simp, h1⟩
    · exact .inr ⟨e', by simp [h1], h2⟩
theorem pow_or_bits {a b j : Nat} (h : (2 ^ a ||| b).testBit j = true) : a = j ∨ b.testBit j = true := by
  rw [Nat.testBit_or, Bool.or_eq_true] at h
  rcases h with h | h
  · rw [Nat.testBit_two_pow] at h; exact .inl (by simpa using h)
  · exact .inr h
theorem mem_aft {o : Oper} {e : Edge} : e ∈ aft o ↔ e ∈ o.after ∧ Region.binds .any e = true := by
  simp [aft]
theorem befores_app : ∀ (ops : List Oper) (acc : List Nat), ∃ l, befores ops acc = acc ++ l ∧ l.length = ops.length
  | [], acc => ⟨[], by simp [befores], rfl⟩
  | o :: r, acc => by
    simp only [befores]
    obtain ⟨l, h1, h2⟩ := befores_app r (acc ++ [(aft o).foldl (fun s e => s ||| (2 ^ e.on ||| acc.getD e.on 0)) 0])
    exact ⟨_ :: l, by rw [h1, List.append_assoc]; rfl, by simp [h2]⟩
theorem befores_at : ∀ (ops : List Oper) (acc : List Nat) (i : Nat) (o : Oper), ops[i]? = some o → (∀ e ∈ aft o, e.on < acc.length + i) → ∀ j, ((befores ops acc).getD (acc.length + i) 0).testBit j = true →
    ∃ e ∈ aft o, e.on = j ∨ ((befores ops acc).getD e.on 0).testBit j = true
  | [], acc, i, o, h, _, j, hj => by simp at h
  | p :: r, acc, 0, o, h, hlt, j, hj => by
    simp at h; subst h
    simp only [befores] at hj ⊢
    obtain ⟨l, h1, h2⟩ := befores_app r (acc ++ [(aft p).foldl (fun s e => s ||| (2 ^ e.on ||| acc.getD e.on 0)) 0])
    rw [h1] at hj ⊢
    have e1 : ((acc ++ [(aft p).foldl (fun s e => s ||| (2 ^ e.on ||| acc.getD e.on 0)) 0]) ++ l).getD (acc.length + 0) 0 = (aft p).foldl (fun s e => s ||| (2 ^ e.on ||| acc.getD e.on 0)) 0 := by
      simp [List.getD_eq_getElem?_getD]
    rw [e1] at hj
    rcases or_bits (fun e : Edge => 2 ^ e.on ||| acc.getD e.on 0) _ _ hj with h3 | ⟨e, h3, h4⟩
    · simp at h3
    · have he : e ∈ aft p := h3
      refine ⟨e, he, ?_⟩
      rcases pow_or_bits h4 with h5 | h5
      · exact .inl h5
      · right
        have := hlt e he
        rw [List.getD_eq_getElem?_getD, List.append_assoc, List.getElem?_append_left (by simpa using this), ← List.getD_eq_getElem?_getD]
        exact h5
  | p :: r, acc, i + 1, o, h, hlt, j, hj => by
    simp at h
    simp only [befores] at hj ⊢
    have := befores_at r (acc ++ [(aft p).foldl (fun s e => s ||| (2 ^ e.on ||| acc.getD e.on 0)) 0]) i o h (fun e he => by have := hlt e he; simp; omega) j
    have e1 : (acc ++ [(aft p).foldl (fun s e => s ||| (2 ^ e.on ||| acc.getD e.on 0)) 0]).length + i = acc.length + (i + 1) := by simp; omega
    rw [e1] at this
    exact this hj

structure DrawOk (ops : Array Oper) (befs bars : List Nat) : Prop where
  bars : ∀ b, memN bars b = true → barrier befs b = true
  lt : ∀ (i : Nat) (o : Oper), ops[i]? = some o → ∀ e ∈ aft o, e.on < i
  via : ∀ (i : Nat) (o : Oper), ops[i]? = some o → ∀ j, (befs.getD i 0).testBit j = true → ∃ e ∈ aft o, e.on = j ∨ (befs.getD e.on 0).testBit j = true
  slots : ∀ (i j : Nat) (o p : Oper) (d : Nat), ops[i]? = some o → ops[j]? = some p → i ≠ j → o.dst = some d → (p.dst = some d ∨ d ∈ operTmps ops p) → (befs.getD i 0).testBit j = true ∨ (befs.getD j 0).testBit i = true
  guard : ∀ (i : Nat) (o : Oper) (j : Nat) (want : Bool), ops[i]? = some o → o.guard = some (j, want) → (befs.getD i 0).testBit j = true

theorem zip_all {l : List Oper} {f : Oper × Nat → Bool} (h : l.zipIdx.all f = true) {i : Nat} {o : Oper} (hi : l[i]? = some o) : f (o, i) = true := by
  refine List.all_eq_true.1 h (o, i) ?_
  rw [List.mem_zipIdx_iff_getElem?]
  exact hi
theorem drawOk_out {ops : Array Oper} {bars : List Nat} (h : drawOk ops = true) (hbars : ∀ b, memN bars b = true → barrier (befores ops.toList []) b = true) : DrawOk ops (befores ops.toList []) bars := by
  unfold drawOk at h
  simp only [Bool.and_eq_true] at h
  obtain ⟨⟨h2, h3⟩, h4⟩ := h
  have lt : ∀ (i : Nat) (o : Oper), ops[i]? = some o → ∀ e ∈ aft o, e.on < i := fun i o ho e he => by
    have := zip_all h2 (i := i) (o := o) (by simpa using ho)
    have := List.all_eq_true.1 this e he
    exact Nat.le_of_ble_eq_true this
  refine ⟨hbars, lt, fun i o ho j hj => ?_, fun i j o p d ho hp hij hd hn => ?_, fun i o j want ho hg => ?_⟩
  · have := befores_at ops.toList [] i o (by simpa using ho) (fun e he => by simpa using lt i o ho e he) j
    simpa using this (by simpa using hj)
  · have := zip_all h4 (i := i) (o := o) (by simpa using ho)
    simp only [hd] at this
    have := zip_all this (i := j) (o := p) (by simpa using hp)
    simp only [Bool.or_eq_true, Bool.and_eq_true, bne_iff_ne, ne_eq, Bool.not_eq_true', List.contains_eq_mem, decide_eq_false_iff_not] at this
    rcases this with (((h5 | h5) | h5) | h5)
    · exact absurd (Nat.eq_of_beq_eq_true h5) hij
    · rcases hn with hn | hn
      · exact absurd hn h5.1
      · exact absurd hn h5.2
    · exact .inl h5
    · exact .inr h5
  · have := zip_all h3 (i := i) (o := o) (by simpa using ho)
    simpa [hg] using this
theorem DrawOk.bef_lt {ops : Array Oper} {befs bars : List Nat} (D : DrawOk ops befs bars) : ∀ (i : Nat) (o : Oper), ops[i]? = some o → ∀ j, (befs.getD i 0).testBit j = true → j < i := by
  intro i
  induction i using Nat.strongRecOn with
  | _ i ih =>
    intro o ho j hj
    obtain ⟨e, he, h⟩ := D.via i o ho j hj
    have hlt := D.lt i o ho e he
    rcases h with h | h
    · omega
    · have hi := (Array.getElem?_eq_some_iff.1 ho).1
      have : ops[e.on]? = some ops[e.on] := by simp [show e.on < ops.size by omega]
      have := ih e.on hlt _ this j h
      omega

/-! ## The way through, in the order of the text -/
def Sim (v0 v : V) : Prop := ∀ (C : Cx) (w : World) (g : Gh) (x : Value), RV C w g v0 x → RV C w g v x
def Ref (env env' : Env) : Prop := ∀ t v, lookN env' t = some v → ∃ v0, lookN env t = some v0 ∧ Sim v0 v
theorem Ref.refl (env : Env) : Ref env env := fun t v h => ⟨v, h, fun _ _ _ _ h => h⟩
theorem Ref.trans {a b c : Env} (h : Ref a b) (k : Ref b c) : Ref a c := fun t v hv => by
  obtain ⟨v1, h1, h2⟩ := k t v hv
  obtain ⟨v0, h3, h4⟩ := h t v1 h1
  exact ⟨v0, h3, fun C w g x hx => h2 C w g x (h4 C w g x hx)⟩
theorem split_ref {env : Env} {d : Nat} {k : Env → Prop} (hs : splitSlot env d k) : ∃ env', Ref env env' ∧ k env' := by
  unfold splitSlot at hs
  split at hs
  · rename_i x hl
    have ext : ∀ z, x = z → Ref env ((d, .bl z) :: env) := fun z hz t v ht => by
      simp only [lookN] at ht
      cases hb : Nat.beq d t
      · rw [hb] at ht; exact ⟨v, ht, fun _ _ _ _ h => h⟩
      · rw [hb] at ht
        simp only [Option.some.injEq] at ht
        obtain rfl := Nat.eq_of_beq_eq_true hb
        subst ht; subst hz
        exact ⟨_, hl, fun C w g x h => by simpa [RV] using h⟩
    cases x
    · exact ⟨_, ext false rfl, (hs.2 rfl).out⟩
    · exact ⟨_, ext true rfl, (hs.1 rfl).out⟩
  · exact ⟨env, Ref.refl env, hs⟩
theorem split_keep {env : Env} {d e : Nat} {y : Bool} {k : Env → Prop} (hs : splitSlot env d k) (hl : lookN env e = some (.bl y)) : ∃ env', Ref env env' ∧ lookN env' e = some (.bl y) ∧ k env' := by
  unfold splitSlot at hs
  split at hs
  · rename_i x hl'
    have hne : d ≠ e := fun h => by subst h; rw [hl] at hl'; cases hl'
    have hnb : Nat.beq d e = false := by cases hb : Nat.beq d e <;> simp_all
    have ext : ∀ z, x = z → Ref env ((d, .bl z) :: env) := fun z hz t v ht => by
      simp only [lookN] at ht
      cases hb : Nat.beq d t
      · rw [hb] at ht; exact ⟨v, ht, fun _ _ _ _ h => h⟩
      · rw [hb] at ht
        simp only [Option.some.injEq] at ht
        obtain rfl := Nat.eq_of_beq_eq_true hb
        subst ht; subst hz
        exact ⟨_, hl', fun C w g x h => by simpa [RV] using h⟩
    cases x
    · exact ⟨_, ext false rfl, by simp only [lookN, hnb]; exact hl, (hs.2 rfl).out⟩
    · exact ⟨_, ext true rfl, by simp only [lookN, hnb]; exact hl, (hs.1 rfl).out⟩
  · exact ⟨env, Ref.refl env, hl, hs⟩
def runs (all : Array Oper) (o : Oper) (env : Env) : Prop :=
  match o.guard with
  | none => True
  | some (j, want) => ∃ d, guardSlot all j = some d ∧ lookN env d = some (.bl want)
def skips (all : Array Oper) (o : Oper) (env : Env) : Prop :=
  ∃ j want d, o.guard = some (j, want) ∧ guardSlot all j = some d ∧ ((∃ y, lookN env d = some (.bl y) ∧ y ≠ want) ∨ lookN env d = some (.tup []))
theorem vop_ref {env : Env} {all : Array Oper} {o : Oper} {run skip : Env → Prop} (hs : vop all o env run skip) :
    (∃ env', Ref env env' ∧ runs all o env' ∧ run env') ∨ (∃ env', Ref env env' ∧ skips all o env' ∧ skip (putEnv env' o.dst (.tup []))) := by
  unfold vop at hs
  dsimp only at hs
  split at hs
  · rename_i hg
    split at hs
    · obtain ⟨env', h1, h2⟩ := split_ref hs
      exact .inl ⟨env', h1, by simp [runs, hg], h2⟩
    · exact .inl ⟨env, Ref.refl env, by simp [runs, hg], hs⟩
  · rename_i j want hg
    split at hs
    · exact hs.elim
    · rename_i d hd
      obtain ⟨env1, r1, hz⟩ := split_ref hs
      clear hs
      cases hl : lookN env1 d with
      | none => simp [hl] at hz
      | some u =>
        rw [hl] at hz
        cases u with
        | bl y =>
          simp only at hz
          cases hb : boolEq y want with
          | true =>
            rw [hb] at hz
            have hy : y = want := by cases y <;> cases want <;> simp [boolEq] at hb ⊢
            subst hy
            simp only at hz
            cases hp : pickSlot o with
            | none =>
              rw [hp] at hz
              exact .inl ⟨env1, r1, by simp only [runs, hg]; exact ⟨d, hd, hl⟩, hz⟩
            | some d' =>
              rw [hp] at hz
              obtain ⟨env', r2, h3, h4⟩ := split_keep hz hl
              exact .inl ⟨env', r1.trans r2, by simp only [runs, hg]; exact ⟨d, hd, h3⟩, h4⟩
          | false =>
            rw [hb] at hz
            simp only at hz
            rw [putK_eq] at hz
            exact .inr ⟨env1, r1, ⟨j, want, d, hg, hd, .inl ⟨y, hl, fun e => by subst e; cases y <;> simp [boolEq] at hb⟩⟩, hz⟩
        | tup vs =>
          cases vs with
          | nil =>
            simp only at hz
            rw [putK_eq] at hz
            exact .inr ⟨env1, r1, ⟨j, want, d, hg, hd, .inr hl⟩, hz⟩
          | cons _ _ => simp at hz
        | _ => simp at hz

def StepR (T : Tab) (S : Specs) (all : Array Oper) (befs bars : List Nat) (m i : Nat) (o : Oper) (env : Env) (h : Heap) (dead : Nat) (env2 : Env) (h2 : Heap) (dead2 : Nat) : Prop :=
  ∃ env', Ref env env' ∧
    ((skips all o env' ∧ env2 = putEnv env' o.dst (.tup []) ∧ h2 = h ∧ dead2 = dead) ∨
     (runs all o env' ∧ memN bars i = true ∧ stepKD T S o (m + 8 * i) env' (heapOf m (less (2 ^ i - 1) dead) h) (fun e k => e = env2 ∧ k = h2) ∧ (∃ v, env2 = putEnv env' o.dst v) ∧ idsLt (m + 8 * (i + 1)) h2 = true ∧ dead2 = dead) ∨
     (runs all o env' ∧ memN bars i = false ∧ (∃ c v news, stepQ T S o (m + 8 * i) (keepEnv env' (operTmps all o)) (heapOf m (less (befs.getD i 0) dead) h) = some (c, v, news) ∧ (∀ p ∈ c, p) ∧ newsIn (m + 8 * i) news = true ∧ env2 = putEnv env' o.dst v ∧ h2 = news ++ h) ∧ dead2 = dead) ∨
     (runs all o env' ∧ memN bars i = false ∧ ∃ c cs v ob, eatC o m (keepEnv env' (operTmps all o)) = some c ∧ eatOk befs i c = true ∧ stepE T S o (m + 8 * i) (keepEnv env' (operTmps all o)) (heapOf m (less (befs.getD i 0) dead) h) = some (cs, v, ob) ∧ (∀ p ∈ cs, p) ∧ env2 = putEnv env' o.dst v ∧ h2 = (m + 8 * i, ob) :: h ∧ dead2 = dead ||| 2 ^ c))
theorem stepKD_sound {C : Cx} {N n : Nat} {w : World} {g : Gh} {h : Heap} {T : Tab} {S : Specs} (hT : TabOk C.P T) (hS : SpecsOk C.P S) {env : Env} {a : Act} (r : RelS C N n env h a w g) {o : Oper} (hd : dstOk N o = true) {k : Env → Heap → Prop} (hs : stepKD T S o n env h k)
    (K : Act → World → Prop) (Q : Exit → Act → World → Prop) (hk : ∀ env' h' a' w' g', k env' h' → RelS C N (n + 8) env' h' a' w' g' → K a' w') : o.wp C.P a w K Q := by
  unfold stepKD at hs
  split at hs
  · rename_i c v news hq
    obtain ⟨hc, hs⟩ := conj_out hs
    rw [forceV_eq, putK_eq, forceNews_eq] at hs
    exact stepQ_sound hT hS r.H r.fresh r.E hq hc K Q fun x w' ⟨g', q⟩ => hk _ _ _ _ g' hs (r.next hd (q.wres r.H))
  · split at hs
    · rename_i c v h' hq
      obtain ⟨hc, hs⟩ := conj_out hs
      rw [forceV_eq, putK_eq, forceH_eq] at hs
      exact stepW_sound hT hS r.H r.fresh r.E hq hc K Q fun x w' ⟨g', q⟩ => hk _ _ _ _ g' hs (r.next hd q)
    · exact hs.elim
theorem stepK_path {T : Tab} {S : Specs} {o : Oper} {n : Nat} {env : Env} {h : Heap} {k : Env → Heap → Prop} (hs : stepKD T S o n env h k) :
    ∃ env2 h2, stepKD T S o n env h (fun e k => e = env2 ∧ k = h2) ∧ (∃ v, env2 = putEnv env o.dst v) ∧ k env2 h2 := by
  have into : ∀ {cs : List Prop} {K : Prop}, (∀ p ∈ cs, p) → K → conj cs K := by
    intro cs
    induction cs with
    | nil => intro K _ h; exact h
    | cons c cs ih =>
      intro K h1 h2
      rw [conj_cons]
      exact ⟨Leaf.mk (h1 c (by simp)), Ev.mk (ih (fun p hp => h1 p (by simp [hp])) h2)⟩
  unfold stepKD at hs
  split at hs
  · rename_i c v news hq
    obtain ⟨hc, hs⟩ := conj_out hs
    rw [forceV_eq, putK_eq, forceNews_eq] at hs
    refine ⟨_, _, ?_, ⟨v, rfl⟩, hs⟩
    unfold stepKD
    rw [hq]
    refine into hc ?_
    rw [forceV_eq, putK_eq, forceNews_eq]
    exact ⟨rfl, rfl⟩
  · rename_i hq
    split at hs
    · rename_i c v h' hw
      obtain ⟨hc, hs⟩ := conj_out hs
      rw [forceV_eq, putK_eq, forceH_eq] at hs
      refine ⟨_, _, ?_, ⟨v, rfl⟩, hs⟩
      unfold stepKD
      rw [hq, hw]
      refine into hc ?_
      rw [forceV_eq, putK_eq, forceH_eq]
      exact ⟨rfl, rfl⟩
    · exact hs.elim
theorem vdraw_path {T : Tab} {S : Specs} {all : Array Oper} {befs bars : List Nat} {m : Nat} {K : Env → Heap → Prop} : ∀ (rest : List Oper) (i dead : Nat) (env : Env) (h : Heap), vdraw T S all befs bars m i dead rest env h K →
    ∃ (E : Nat → Env) (H : Nat → Heap) (X : Nat → Nat), E i = env ∧ H i = h ∧ X i = dead ∧ (∀ j o, rest[j]? = some o → StepR T S all befs bars m (i + j) o (E (i + j)) (H (i + j)) (X (i + j)) (E (i + j + 1)) (H (i + j + 1)) (X (i + j + 1))) ∧ K (E (i + rest.length)) (heapOf m (less (2 ^ (i + rest.length) - 1) (X (i + rest.length))) (H (i + rest.length)))
  | [], i, dead, env, h, hs => ⟨fun _ => env, fun _ => h, fun _ => dead, rfl, rfl, rfl, by simp, by rw [vdraw_nil, forceH_eq] at hs; exact hs⟩
  | o :: rest, i, dead, env, h, hs => by
    have fin : ∀ env2 h2 dead2, StepR T S all befs bars m i o env h dead env2 h2 dead2 → vdraw T S all befs bars m (i + 1) dead2 rest env2 h2 K → ∃ (E : Nat → Env) (H : Nat → Heap) (X : Nat → Nat), E i = env ∧ H i = h ∧ X i = dead ∧ (∀ j p, (o :: rest)[j]? = some p → StepR T S all befs bars m (i + j) p (E (i + j)) (H (i + j)) (X (i + j)) (E (i + j + 1)) (H (i + j + 1)) (X (i + j + 1))) ∧ K (E (i + (o :: rest).length)) (heapOf m (less (2 ^ (i + (o :: rest).length) - 1) (X (i + (o :: rest).length))) (H (i + (o :: rest).length))) := by
      intro env2 h2 dead2 hstep hv
      obtain ⟨E, H, X, h1, h3, h6, h4, h5⟩ := vdraw_path rest (i + 1) dead2 env2 h2 hv
      refine ⟨fun k => if k = i then env else E k, fun k => if k = i then h else H k, fun k => if k = i then dead else X k, by simp, by simp, by simp, fun j p hp => ?_, ?_⟩
      · match j with
        | 0 =>
          simp at hp; subst hp
          simp only [Nat.add_zero, if_true, show ¬ i + 1 = i by omega, if_false]
          rw [h1, h3, h6]; exact hstep
        | j + 1 =>
          have := h4 j p (by simpa using hp)
          simp only [show ¬ i + (j + 1) = i by omega, show ¬ i + (j + 1) + 1 = i by omega, if_false]
          rw [show i + (j + 1) = i + 1 + j by omega]
          exact this
      · simp only [List.length_cons, show ¬ i + (rest.length + 1) = i by omega, if_false]
        rw [show i + (rest.length + 1) = i + 1 + rest.length by omega]
        exact h5
    rw [vdraw_cons] at hs
    unfold vdraw1 at hs
    rcases vop_ref hs with ⟨env', hr, hrun, hs⟩ | ⟨env', hr, hsk, hs⟩
    · split at hs
      · rename_i hb
        rw [forceH_eq] at hs
        obtain ⟨env2, h2, h3, h4, h5⟩ := stepK_path hs
        rw [forceN_eq] at h5
        split at h5
        · rename_i hi
          exact fin _ _ _ ⟨env', hr, .inr (.inl ⟨hrun, hb, h3, h4, hi, rfl⟩)⟩ h5
        · exact h5.elim
      · rename_i hb
        rw [forceH_eq] at hs
        split at hs
        · rename_i c hc
          split at hs
          · rename_i hok
            split at hs
            · rename_i cs v ob hq
              obtain ⟨hcs, hs⟩ := conj_out hs
              rw [forceV_eq, putK_eq, forceNews_eq, forceN_eq, forceN_eq] at hs
              exact fin _ _ _ ⟨env', hr, .inr (.inr (.inr ⟨hrun, hb, c, cs, v, ob, hc, hok, hq, hcs, rfl, rfl, rfl⟩))⟩ hs
            · exact hs.elim
          · exact hs.elim
        · unfold stepKQ at hs
          split at hs
          · rename_i c v news hq
            split at hs
            · rename_i hn
              obtain ⟨hc, hs⟩ := conj_out hs
              rw [forceV_eq, putK_eq, forceNews_eq, forceN_eq] at hs
              exact fin _ _ _ ⟨env', hr, .inr (.inr (.inl ⟨hrun, hb, ⟨c, v, news, hq, hc, hn, rfl, rfl⟩, rfl⟩))⟩ hs
            · exact hs.elim
          · exact hs.elim
    · rw [forceN_eq] at hs
      exact fin _ _ _ ⟨env', hr, .inl ⟨hsk, rfl, rfl, rfl⟩⟩ hs

theorem newsIn_look {n : Nat} : ∀ (news : Heap), newsIn n news = true → ∀ id o, lookN news id = some o → n ≤ id ∧ id < n + 8
  | [], _, id, o, h => by simp [lookN] at h
  | (k, p) :: r, hb, id, o, h => by
    simp only [newsIn] at hb
    split at hb
    · rename_i h1
      split at hb
      · rename_i h2
        simp only [lookN] at h
        cases hk : Nat.beq k id
        · rw [hk] at h; exact newsIn_look r hb id o h
        · obtain rfl := Nat.eq_of_beq_eq_true hk
          exact ⟨Nat.le_of_ble_eq_true h1, Nat.le_of_ble_eq_true h2⟩
      · cases hb
    · cases hb
theorem idsLt_look {n : Nat} : ∀ (h : Heap), idsLt n h = true → ∀ id o, lookN h id = some o → id < n
  | [], _, id, o, h => by simp [lookN] at h
  | (k, p) :: r, hb, id, o, h => by
    simp only [idsLt] at hb
    split at hb
    · rename_i h1
      simp only [lookN] at h
      cases hk : Nat.beq k id
      · rw [hk] at h; exact idsLt_look r hb id o h
      · obtain rfl := Nat.eq_of_beq_eq_true hk
        exact Nat.le_of_ble_eq_true h1
    · cases hb
theorem lookN_app : ∀ (a b : Heap) (id : Nat), lookN (a ++ b) id = match lookN a id with | some o => some o | none => lookN b id
  | [], b, id => by simp [lookN]
  | (k, p) :: r, b, id => by
    simp only [List.cons_append, lookN]
    cases hk : Nat.beq k id
    · exact lookN_app r b id
    · rfl
/-- What of the heap was there, or was made by those done. -/
def heapD (m : Nat) (on : Nat → Bool) : Heap → Heap
  | [] => []
  | (id, o) :: r => if id < m ∨ on (sub8 m id) = true then (id, o) :: heapD m on r else heapD m on r
theorem heapD_look (m : Nat) (on : Nat → Bool) : ∀ (h : Heap) (id : Nat), lookN (heapD m on h) id = if id < m ∨ on (sub8 m id) = true then lookN h id else none
  | [], id => by simp [heapD, lookN]
  | (k, p) :: r, id => by
    have ih := heapD_look m on r id
    simp only [heapD]
    by_cases hc : k < m ∨ on (sub8 m k) = true
    · rw [if_pos hc]
      simp only [lookN]
      cases hk : Nat.beq k id
      · exact ih
      · obtain rfl := Nat.eq_of_beq_eq_true hk
        rw [if_pos hc]
    · rw [if_neg hc, ih]
      by_cases hd : id < m ∨ on (sub8 m id) = true
      · rw [if_pos hd, if_pos hd]
        simp only [lookN]
        cases hk : Nat.beq k id
        · rfl
        · obtain rfl := Nat.eq_of_beq_eq_true hk
          exact absurd hd hc
      · rw [if_neg hd, if_neg hd]
theorem heapOf_look (m bef : Nat) : ∀ (h : Heap) (id : Nat) (o : Obj), lookN (heapOf m bef h) id = some o → (id < m ∨ bef.testBit (sub8 m id) = true) ∧ lookN h id = some o
  | [], id, o, h => by simp [heapOf, lookN] at h
  | (k, p) :: r, id, o, h => by
    have hit : (k < m ∨ bef.testBit (sub8 m k) = true) → lookN ((k, p) :: heapOf m bef r) id = some o → (id < m ∨ bef.testBit (sub8 m id) = true) ∧ lookN ((k, p) :: r) id = some o := fun hc h => by
      simp only [lookN] at h ⊢
      cases hk : Nat.beq k id
      · rw [hk] at h; exact heapOf_look m bef r id o h
      · rw [hk] at h
        obtain rfl := Nat.eq_of_beq_eq_true hk
        exact ⟨hc, h⟩
    have miss : ¬ k < m → ¬ bef.testBit (sub8 m k) = true → lookN (heapOf m bef r) id = some o → (id < m ∨ bef.testBit (sub8 m id) = true) ∧ lookN ((k, p) :: r) id = some o := fun h1 h2 h => by
      obtain ⟨h3, h4⟩ := heapOf_look m bef r id o h
      simp only [lookN]
      cases hk : Nat.beq k id
      · exact ⟨h3, h4⟩
      · obtain rfl := Nat.eq_of_beq_eq_true hk
        rcases h3 with h3 | h3
        · exact absurd h3 h1
        · exact absurd h3 h2
    simp only [heapOf] at h
    split at h
    · rename_i hlt; exact hit (.inl (Nat.le_of_ble_eq_true hlt)) h
    · rename_i hlt
      split at h
      · rename_i hb; exact hit (.inr hb) h
      · rename_i hb
        exact miss (fun hc => by have := Nat.ble_eq_true_of_le hc; unfold Nat.blt at hlt; simp_all) (by simp [hb]) h
theorem sub8_of {m i id : Nat} (h1 : m + 8 * i ≤ id) (h2 : id < m + 8 * i + 8) : sub8 m id = i := by unfold sub8; omega

theorem keepEnv_has : ∀ (keep : List Nat) (env : Env) (t : Nat) (v : V), t ∈ keep → lookN env t = some v → lookN (keepEnv env keep) t = some v
  | [], env, t, v, h, _ => by simp at h
  | k :: r, env, t, v, h, hv => by
    simp only [keepEnv]
    by_cases hk : k = t
    · subst hk; rw [hv]; simp [lookN]
    · have : t ∈ r := by rcases List.mem_cons.1 h with h | h; exact absurd h.symm hk; exact h
      have ih := keepEnv_has r env t v this hv
      split
      · simp only [lookN]
        have : Nat.beq k t = false := by cases hb : Nat.beq k t; rfl; exact absurd (Nat.eq_of_beq_eq_true hb) hk
        rw [this]; exact ih
      · exact ih
theorem keepEnv_in : ∀ (keep : List Nat) (env : Env) (t : Nat) (v : V), lookN (keepEnv env keep) t = some v → t ∈ keep
  | [], env, t, v, h => by simp [keepEnv, lookN] at h
  | k :: r, env, t, v, h => by
    simp only [keepEnv] at h
    split at h
    · simp only [lookN] at h
      cases hb : Nat.beq k t
      · rw [hb] at h; exact List.mem_cons_of_mem _ (keepEnv_in r env t v h)
      · obtain rfl := Nat.eq_of_beq_eq_true hb; simp
    · exact List.mem_cons_of_mem _ (keepEnv_in r env t v h)

section
variable {C : Cx} {w w' : World} {g g' : Gh} {h : Heap} {T : Tab} {S : Specs} {N n : Nat}

theorem RelH.part {h' : Heap} (R : RelH C h w g) (hp : ∀ id o, lookN h' id = some o → lookN h id = some o) : RelH C h' w g :=
  ⟨R.keep, R.size, R.os, R.tape, R.output, R.F, R.Fin, R.pin, R.lam, fun id o ho => R.obj id o (hp id o ho), fun id o id' o' b h1 h2 => R.sep id o id' o' b (hp id o h1) (hp id' o' h2)⟩
theorem Evo.drawn (w : World) (g : Gh) (k : Nat) : Evo w g { w with drawn := k } g := ⟨fun b hb => ⟨hb, rfl⟩, fun id hi => ⟨hi, rfl⟩⟩

theorem RelH.drawn (R : RelH C h w g) (k : Nat) : RelH C h { w with drawn := k } g := by
  refine ⟨R.keep, R.size, R.os, R.tape, R.output, R.F, R.Fin, R.pin, R.lam, fun id o ho => ?_, R.sep⟩
  obtain ⟨h1, h2⟩ := R.obj id o ho
  refine ⟨h1, ?_⟩
  cases o with
  | box cs =>
    obtain ⟨blk, vs, te, h3, h4, h5, h6⟩ := h2
    exact ⟨blk, vs, te, h3, h4, RVs_mono (Evo.drawn w g k) _ _ h5, h6⟩
  | arr te e xs =>
    obtain ⟨cells, h3, h4, h5, h6⟩ := h2
    exact ⟨cells, h3, reps_mono (Evo.drawn w g k).F _ _ _ h4, h5, h6⟩
  | ice e xs => exact rep_mono (Evo.drawn w g k).F _ _ _ h2
  | map a b l =>
    obtain ⟨blk, es, clock, h3, h4, h5, h6⟩ := h2
    exact ⟨blk, es, clock, h3, h4, mapRep_mono (Evo.drawn w g k).F h5, h6⟩
  | raw te e xs =>
    obtain ⟨h3, h4 | ⟨blk, n, cur, q1, q2, q3, q4, q5, q6, q7⟩⟩ := h2
    · exact ⟨h3, .inl h4⟩
    · exact ⟨h3, .inr ⟨blk, n, cur, q1, q2, q3, q4, q5, rawRep_mono (Evo.drawn w g k).F q6, q7⟩⟩

/-- The states between the operations, in the order of the text. -/
structure Path (T : Tab) (S : Specs) (ops : Array Oper) (befs bars : List Nat) (m : Nat) (E : Nat → Env) (H : Nat → Heap) (X : Nat → Nat) : Prop where
  step : ∀ (i : Nat) (o : Oper), ops[i]? = some o → StepR T S ops befs bars m i o (E i) (H i) (X i) (E (i + 1)) (H (i + 1)) (X (i + 1))
  h0 : ∀ id o, lookN (H 0) id = some o → id < m
  x0 : X 0 = 0
theorem Path.env_same {ops : Array Oper} {befs bars : List Nat} {m : Nat} {E : Nat → Env} {H : Nat → Heap} {X : Nat → Nat} (p : Path T S ops befs bars m E H X) {i : Nat} {t : Nat} : ∀ (d : Nat), i + d ≤ ops.size → (∀ j o, i ≤ j → j < i + d → ops[j]? = some o → o.dst ≠ some t) →
    ∀ v, lookN (E (i + d)) t = some v → ∃ v0, lookN (E i) t = some v0 ∧ Sim v0 v
  | 0, _, _, v, hv => ⟨v, hv, fun _ _ _ _ h => h⟩
  | d + 1, hd, hno, v, hv => by
    have hlt : i + d < ops.size := by omega
    have hstep := p.step (i + d) ops[i + d] (by simp [hlt])
    have hdst := hno (i + d) ops[i + d] (by omega) (by omega) (by simp [hlt])
    obtain ⟨env', hr, h⟩ := hstep
    have he : ∃ u, E (i + d + 1) = putEnv env' ops[i + d].dst u := by
      rcases h with ⟨_, h, _⟩ | ⟨_, _, _, ⟨u, h⟩, _⟩ | ⟨_, _, ⟨c, u, nw, _, _, _, h, _⟩, _⟩ | ⟨_, _, c, cs, u, ob, _, _, _, _, h, _⟩
      · exact ⟨_, h⟩
      · exact ⟨_, h⟩
      · exact ⟨_, h⟩
      · exact ⟨_, h⟩
    obtain ⟨u, hu⟩ := he
    have hv' : lookN env' t = some v := by
      rw [show i + (d + 1) = i + d + 1 by omega, hu] at hv
      unfold putEnv at hv
      split at hv
      · rename_i d' hd'
        simp only [lookN] at hv
        cases hb : Nat.beq d' t
        · rw [hb] at hv; exact hv
        · obtain rfl := Nat.eq_of_beq_eq_true hb
          exact absurd hd' hdst
      · exact hv
    obtain ⟨v1, h1, h2⟩ := hr t v hv'
    obtain ⟨v0, h3, h4⟩ := p.env_same d (by omega) (fun j o h1 h2 => hno j o h1 (by omega)) v1 h1
    exact ⟨v0, h3, fun C w g x hx => h2 C w g x (h4 C w g x hx)⟩
theorem Path.ids {ops : Array Oper} {befs bars : List Nat} {m : Nat} {E : Nat → Env} {H : Nat → Heap} {X : Nat → Nat} (p : Path T S ops befs bars m E H X) : ∀ (k : Nat), k ≤ ops.size → ∀ id o, lookN (H k) id = some o → id < m + 8 * k
  | 0, _, id, o, h => by simpa using p.h0 id o h
  | k + 1, hk, id, o, h => by
    have hlt : k < ops.size := by omega
    obtain ⟨env', hr, hs⟩ := p.step k ops[k] (by simp [hlt])
    rcases hs with ⟨_, _, hh, _⟩ | ⟨_, _, _, _, hi, _⟩ | ⟨_, _, ⟨c, v, news, _, _, hn, _, hh⟩, _⟩ | ⟨_, _, c, cs, v, ob, _, _, _, _, _, hh, _⟩
    · rw [hh] at h; have := p.ids k (by omega) id o h; omega
    · exact idsLt_look _ hi id o h
    · rw [hh, lookN_app] at h
      cases hq : lookN news id with
      | some o' => have := newsIn_look news hn id o' hq; omega
      | none => rw [hq] at h; have := p.ids k (by omega) id o h; omega
    · rw [hh] at h
      simp only [lookN] at h
      cases hb : Nat.beq (m + 8 * k) id
      · rw [hb] at h; have := p.ids k (by omega) id o h; omega
      · have := Nat.eq_of_beq_eq_true hb; omega
theorem Path.heap_same {ops : Array Oper} {befs bars : List Nat} {m : Nat} {E : Nat → Env} {H : Nat → Heap} {X : Nat → Nat} (p : Path T S ops befs bars m E H X) {i : Nat} : ∀ (d : Nat), i + d ≤ ops.size → (∀ j, i ≤ j → j < i + d → memN bars j = false) →
    ∀ id o, lookN (H (i + d)) id = some o → id < m + 8 * i → lookN (H i) id = some o
  | 0, _, _, id, o, h, _ => h
  | d + 1, hd, hno, id, o, h, hid => by
    have hlt : i + d < ops.size := by omega
    obtain ⟨env', hr, hs⟩ := p.step (i + d) ops[i + d] (by simp [hlt])
    refine p.heap_same d (by omega) (fun j h1 h2 => hno j h1 (by omega)) id o ?_ hid
    rcases hs with ⟨_, _, hh, _⟩ | ⟨_, hb, _⟩ | ⟨_, _, ⟨c, v, news, _, _, hn, _, hh⟩, _⟩ | ⟨_, _, c, cs, v, ob, _, _, _, _, _, hh, _⟩
    · rw [show i + (d + 1) = i + d + 1 by omega, hh] at h; exact h
    · rw [hno (i + d) (by omega) (by omega)] at hb; cases hb
    · rw [show i + (d + 1) = i + d + 1 by omega, hh, lookN_app] at h
      cases hq : lookN news id with
      | some o' => have := newsIn_look news hn id o' hq; omega
      | none => rw [hq] at h; exact h
    · rw [show i + (d + 1) = i + d + 1 by omega, hh] at h
      simp only [lookN] at h
      cases hb : Nat.beq (m + 8 * (i + d)) id
      · rw [hb] at h; exact h
      · have := Nat.eq_of_beq_eq_true hb; omega
theorem Path.heap_more {ops : Array Oper} {befs bars : List Nat} {m : Nat} {E : Nat → Env} {H : Nat → Heap} {X : Nat → Nat} (p : Path T S ops befs bars m E H X) {i : Nat} : ∀ (d : Nat), i + d ≤ ops.size → (∀ j, i ≤ j → j < i + d → memN bars j = false) →
    ∀ id o, lookN (H i) id = some o → lookN (H (i + d)) id = some o
  | 0, _, _, id, o, h => h
  | d + 1, hd, hno, id, o, h => by
    have hlt : i + d < ops.size := by omega
    have ih := p.heap_more d (by omega) (fun j h1 h2 => hno j h1 (by omega)) id o h
    have hid := p.ids (i + d) (by omega) id o ih
    obtain ⟨env', hr, hs⟩ := p.step (i + d) ops[i + d] (by simp [hlt])
    rcases hs with ⟨_, _, hh, _⟩ | ⟨_, hb, _⟩ | ⟨_, _, ⟨c, v, news, _, _, hn, _, hh⟩, _⟩ | ⟨_, _, c, cs, v, ob, _, _, _, _, _, hh, _⟩
    · rw [show i + (d + 1) = i + d + 1 by omega, hh]; exact ih
    · rw [hno (i + d) (by omega) (by omega)] at hb; cases hb
    · rw [show i + (d + 1) = i + d + 1 by omega, hh, lookN_app]
      cases hq : lookN news id with
      | some o' => have := newsIn_look news hn id o' hq; omega
      | none => exact ih
    · rw [show i + (d + 1) = i + d + 1 by omega, hh]
      simp only [lookN]
      cases hb : Nat.beq (m + 8 * (i + d)) id
      · exact ih
      · have := Nat.eq_of_beq_eq_true hb; omega

abbrev onL (listed : Array Bool) (i : Nat) : Bool := listed.getD i false
theorem barrier_out {befs : List Nat} {b : Nat} (h : barrier befs b = true) : befs.getD b 0 = 2 ^ b - 1 ∧ ∀ k, b < k → k < befs.length → (befs.getD k 0).testBit b = true := by
  unfold barrier at h
  simp only [Bool.and_eq_true] at h
  refine ⟨Nat.eq_of_beq_eq_true h.1, fun k hk hl => ?_⟩
  have := List.all_eq_true.1 h.2 (befs.getD k 0) (by
    rw [List.mem_iff_getElem?]
    refine ⟨k - (b + 1), ?_⟩
    rw [List.getElem?_drop, show b + 1 + (k - (b + 1)) = k by omega, List.getD_eq_getElem?_getD, List.getElem?_eq_getElem hl]
    rfl)
  exact this
theorem onL_set {listed : Array Bool} {i j : Nat} (hi : i < listed.size) : onL (listed.setIfInBounds i true) j = true ↔ j = i ∨ onL listed j = true := by
  by_cases hij : i = j
  · subst hij
    simp [hi]
  · rw [onL, getD_set_ne false hij]
    constructor
    · exact .inr
    · rintro (h | h)
      · exact absurd h.symm hij
      · exact h

/-- What operation e takes away: what c made. -/
def Eat (X : Nat → Nat) (n e c : Nat) : Prop := e < n ∧ (X (e + 1)).testBit c = true ∧ (X e).testBit c = false
open Classical in
noncomputable def liveL (n : Nat) (X : Nat → Nat) (listed : Array Bool) (c : Nat) : Bool := decide (onL listed c = true ∧ ∀ e, Eat X n e c → onL listed e = false)
theorem live_iff {n : Nat} {X : Nat → Nat} {listed : Array Bool} {c : Nat} : liveL n X listed c = true ↔ (onL listed c = true ∧ ∀ e, Eat X n e c → onL listed e = false) := by
  simp [liveL]
theorem live_on {n : Nat} {X : Nat → Nat} {listed : Array Bool} {c : Nat} (h : liveL n X listed c = true) : onL listed c = true := (live_iff.1 h).1
theorem less_bit (a d c : Nat) : (less a d).testBit c = (a.testBit c && !d.testBit c) := by
  simp only [less, Nat.testBit_xor, Nat.testBit_and]
  cases a.testBit c <;> cases d.testBit c <;> rfl
theorem Path.eat {ops : Array Oper} {befs bars : List Nat} {m : Nat} {E : Nat → Env} {H : Nat → Heap} {X : Nat → Nat} (p : Path T S ops befs bars m E H X) {e c : Nat} (h : Eat X ops.size e c) : eatOk befs e c = true ∧ memN bars e = false := by
  obtain ⟨h1, h2, h3⟩ := h
  obtain ⟨env', hr, hs⟩ := p.step e ops[e] (by simp [h1])
  rcases hs with ⟨_, _, _, hx⟩ | ⟨_, _, _, _, _, hx⟩ | ⟨_, _, _, hx⟩ | ⟨_, hb, c', cs, v, ob, _, hok, _, _, _, _, hx⟩
  · rw [hx, h3] at h2; cases h2
  · rw [hx, h3] at h2; cases h2
  · rw [hx, h3] at h2; cases h2
  · rw [hx, Nat.testBit_or, h3, Bool.false_or, Nat.testBit_two_pow] at h2
    have : c' = c := by simpa using h2
    subst this
    exact ⟨hok, hb⟩
theorem Path.dead {ops : Array Oper} {befs bars : List Nat} {m : Nat} {E : Nat → Env} {H : Nat → Heap} {X : Nat → Nat} (p : Path T S ops befs bars m E H X) {c : Nat} : ∀ (i : Nat), i ≤ ops.size → ((X i).testBit c = true ↔ ∃ e, e < i ∧ Eat X ops.size e c)
  | 0, _ => by rw [p.x0]; simp
  | i + 1, hi => by
    have ih := p.dead (c := c) i (by omega)
    have up : (X i).testBit c = true → (X (i + 1)).testBit c = true := by
      obtain ⟨env', hr, hs⟩ := p.step i ops[i] (by simp)
      rcases hs with ⟨_, _, _, hx⟩ | ⟨_, _, _, _, _, hx⟩ | ⟨_, _, _, hx⟩ | ⟨_, hb, c', cs, v, ob, _, hok, _, _, _, _, hx⟩
      · rw [hx]; exact id
      · rw [hx]; exact id
      · rw [hx]; exact id
      · rw [hx, Nat.testBit_or]; intro h; rw [h]; rfl
    constructor
    · intro h
      cases hb : (X i).testBit c with
      | true => obtain ⟨e, h1, h2⟩ := ih.1 hb; exact ⟨e, by omega, h2⟩
      | false => exact ⟨i, by omega, by omega, h, hb⟩
    · intro ⟨e, h1, h2⟩
      rcases Nat.lt_or_ge e i with h3 | h3
      · exact up (ih.2 ⟨e, h3, h2⟩)
      · have : e = i := by omega
        subst this; exact h2.2.1
theorem eatOk_out {befs : List Nat} {i c : Nat} (h : eatOk befs i c = true) : (befs.getD i 0).testBit c = true ∧ ∀ j, j < i → (befs.getD j 0).testBit c = true → (befs.getD i 0).testBit j = true := by
  unfold eatOk at h
  rw [Bool.and_eq_true] at h
  refine ⟨h.1, fun j hj hb => ?_⟩
  rcases Nat.lt_or_ge j befs.length with hl | hl
  · have := List.all_eq_true.1 h.2 (befs[j], j) (by rw [List.mem_zipIdx_iff_getElem?]; simp [List.getElem?_take, hj, hl])
    rw [List.getD_eq_getElem?_getD, List.getElem?_eq_getElem hl] at hb
    simp only [Option.getD_some] at hb
    simpa [hb] using this
  · rw [List.getD_eq_getElem?_getD, List.getElem?_eq_none hl] at hb
    simp at hb
theorem live_set {n : Nat} {X : Nat → Nat} {listed : Array Bool} {i c : Nat} (hi : i < listed.size) (h : liveL n X (listed.setIfInBounds i true) c = true) : c = i ∨ liveL n X listed c = true := by
  obtain ⟨h1, h2⟩ := live_iff.1 h
  rcases (onL_set hi).1 h1 with h3 | h3
  · exact .inl h3
  · refine .inr (live_iff.2 ⟨h3, fun e he => ?_⟩)
    have := h2 e he
    cases hb : onL listed e with
    | false => rfl
    | true => rw [(onL_set hi).2 (.inr hb)] at this; cases this
/-- What an operation sees is alive. -/
theorem DI.sees {ops : Array Oper} {befs bars : List Nat} {m : Nat} {E : Nat → Env} {H : Nat → Heap} {X : Nat → Nat} {listed : Array Bool} (p : Path T S ops befs bars m E H X) (closed : ∀ i j, onL listed i = true → (befs.getD i 0).testBit j = true → onL listed j = true) {i : Nat} {o : Oper} (ho : ops[i]? = some o)
    (hoff : onL listed i = false) (hready : ∀ j, (befs.getD i 0).testBit j = true → onL listed j = true) {c : Nat} (h : (less (befs.getD i 0) (X i)).testBit c = true) : liveL ops.size X listed c = true := by
  have hi := (Array.getElem?_eq_some_iff.1 ho).1
  rw [less_bit, Bool.and_eq_true] at h
  refine live_iff.2 ⟨hready c h.1, fun e he => ?_⟩
  rcases Nat.lt_trichotomy e i with h1 | h1 | h1
  · have := (p.dead i (by omega)).2 ⟨e, h1, he⟩
    rw [this] at h; cases h.2
  · subst h1; exact hoff
  · have := (eatOk_out (p.eat he).1).2 i h1 h.1
    cases hb : onL listed e with
    | false => rfl
    | true => rw [closed e i hb this] at hoff; cases hoff
/-- What those ahead of a place have left is alive there. -/
theorem DI.left {ops : Array Oper} {befs bars : List Nat} {m : Nat} {E : Nat → Env} {H : Nat → Heap} {X : Nat → Nat} {listed : Array Bool} (p : Path T S ops befs bars m E H X) {i : Nat} (hi : i ≤ ops.size) (hon : ∀ j, onL listed j = true ↔ j < i) {c : Nat} (h : (less (2 ^ i - 1) (X i)).testBit c = true) : liveL ops.size X listed c = true := by
  rw [less_bit, Bool.and_eq_true, Nat.testBit_two_pow_sub_one] at h
  refine live_iff.2 ⟨(hon c).2 (by simpa using h.1), fun e he => ?_⟩
  cases hb : onL listed e with
  | false => rfl
  | true =>
    have := (p.dead i hi).2 ⟨e, (hon e).1 hb, he⟩
    rw [this] at h; cases h.2
/-- What holds after those of 'listed' have been carried out, in whatever order. -/
structure DI (C : Cx) (N : Nat) (ops : Array Oper) (befs bars : List Nat) (m : Nat) (E : Nat → Env) (H : Nat → Heap) (X : Nat → Nat) (listed : Array Bool) (a : Act) (w : World) (g : Gh) : Prop where
  size : listed.size = ops.size
  closed : ∀ i j, onL listed i = true → (befs.getD i 0).testBit j = true → onL listed j = true
  env : ∀ k t v, k ≤ ops.size → (∀ b, b < ops.size → memN bars b = true → onL listed b = true → b < k) → lookN (E k) t = some v → (∀ (j : Nat) (o : Oper), ops[j]? = some o → o.dst = some t → (onL listed j = true ↔ j < k)) → ∃ x, a.tmps[t]? = some x ∧ RV C w g v x
  heap : ∀ k, k ≤ ops.size → (∀ b, b < ops.size → memN bars b = true → (onL listed b = true ↔ b < k)) → RelH C (heapD m (liveL ops.size X listed) (H k)) w g
  U : ∀ id, g.U id → id < m ∨ ∃ j, onL listed j = true ∧ m + 8 * j ≤ id ∧ id < m + 8 * j + 8
  sz : a.tmps.size = N
  df : a.defers = []

theorem DI.cond_env {ops : Array Oper} {befs bars : List Nat} {m : Nat} {E : Nat → Env} {H : Nat → Heap} {X : Nat → Nat} {listed : Array Bool} {a : Act} (D : DrawOk ops befs bars) (inv : DI C N ops befs bars m E H X listed a w g) {i : Nat} {o : Oper} (ho : ops[i]? = some o)
    (hoff : onL listed i = false) (hready : ∀ j, (befs.getD i 0).testBit j = true → onL listed j = true) {t : Nat} (ht : t ∈ operTmps ops o ∨ o.dst = some t) :
    ∀ (j : Nat) (p : Oper), ops[j]? = some p → p.dst = some t → (onL listed j = true ↔ j < i) := by
  intro j p hp hd
  by_cases hji : j = i
  · subst hji; simp [hoff]
  have hs := D.slots j i p o t hp ho hji hd (by rcases ht with h | h; exact .inr h; exact .inl h)
  constructor
  · intro hon
    rcases hs with hs | hs
    · exact absurd (inv.closed j i hon hs) (by simp [hoff])
    · exact D.bef_lt i o ho j hs
  · intro hlt
    rcases hs with hs | hs
    · have := D.bef_lt j p hp i hs; omega
    · exact hready j hs

theorem DI.heap_i {ops : Array Oper} {befs bars : List Nat} {m : Nat} {E : Nat → Env} {H : Nat → Heap} {X : Nat → Nat} {listed : Array Bool} {a : Act} (D : DrawOk ops befs bars) (hlen : befs.length = ops.size) (inv : DI C N ops befs bars m E H X listed a w g) {i : Nat} {o : Oper} (ho : ops[i]? = some o)
    (hoff : onL listed i = false) (hready : ∀ j, (befs.getD i 0).testBit j = true → onL listed j = true) : ∀ b, b < ops.size → memN bars b = true → (onL listed b = true ↔ b < i) := by
  have hi := (Array.getElem?_eq_some_iff.1 ho).1
  intro b hb hbar
  obtain ⟨h1, h2⟩ := barrier_out (D.bars _ hbar)
  constructor
  · intro hon
    rcases Nat.lt_trichotomy b i with h | h | h
    · exact h
    · subst h; rw [hoff] at hon; cases hon
    · have hbit : (befs.getD b 0).testBit i = true := by rw [h1, Nat.testBit_two_pow_sub_one]; simp [h]
      have := inv.closed b i hon hbit
      rw [hoff] at this; cases this
  · intro hlt
    exact hready b (h2 i hlt (by omega))

theorem DI.rel_env {ops : Array Oper} {befs bars : List Nat} {m : Nat} {E : Nat → Env} {H : Nat → Heap} {X : Nat → Nat} {listed : Array Bool} {a : Act} (D : DrawOk ops befs bars) (hlen : befs.length = ops.size) (inv : DI C N ops befs bars m E H X listed a w g) {i : Nat} {o : Oper} (ho : ops[i]? = some o)
    (hoff : onL listed i = false) (hready : ∀ j, (befs.getD i 0).testBit j = true → onL listed j = true) {env' : Env} (hr : Ref (E i) env') : RelE C (keepEnv env' (operTmps ops o)) a.tmps w g := by
  have hi := (Array.getElem?_eq_some_iff.1 ho).1
  intro t v ht
  have hin := keepEnv_in _ _ _ _ ht
  obtain ⟨v0, h1, h2⟩ := hr t v (keepEnv_look _ _ _ _ ht)
  obtain ⟨x, h3, h4⟩ := inv.env i t v0 (by omega) (fun b hb hbb hon => (inv.heap_i D hlen ho hoff hready b hb hbb).1 hon) h1 (inv.cond_env D ho hoff hready (.inl hin))
  exact ⟨x, h3, h2 C w g x h4⟩

theorem put_at {a : Act} {dst : Option Tmp} {x : Value} {t : Nat} : (dst ≠ some t → (a.put dst x).tmps[t]? = a.tmps[t]?) ∧ (dst = some t → t < a.tmps.size → (a.put dst x).tmps[t]? = some x) := by
  constructor
  · intro h
    cases dst with
    | none => rfl
    | some d =>
      have : d ≠ t := fun e => h (by rw [e])
      simp [Act.put, Array.getElem?_setIfInBounds_ne this]
  · intro h hlt
    subst h
    simp [Act.put, hlt]

/-- One more carried out: the slots. -/
theorem DI.env_next {ops : Array Oper} {befs bars : List Nat} {m : Nat} {E : Nat → Env} {H : Nat → Heap} {X : Nat → Nat} {listed : Array Bool} {a : Act} (D : DrawOk ops befs bars) (p : Path T S ops befs bars m E H X) (inv : DI C N ops befs bars m E H X listed a w g) {i : Nat} {o : Oper} (ho : ops[i]? = some o)
    (hoff : onL listed i = false) (hready : ∀ j, (befs.getD i 0).testBit j = true → onL listed j = true) (hd : dstOk N o = true) {env' : Env} {v : V} {x : Value} (hE : E (i + 1) = putEnv env' o.dst v) (ev : Evo w g w' g') (hv : RV C w' g' v x) :
    ∀ k t u, k ≤ ops.size → (∀ b, b < ops.size → memN bars b = true → onL (listed.setIfInBounds i true) b = true → b < k) → lookN (E k) t = some u → (∀ (j : Nat) (q : Oper), ops[j]? = some q → q.dst = some t → (onL (listed.setIfInBounds i true) j = true ↔ j < k)) → ∃ y, (a.put o.dst x).tmps[t]? = some y ∧ RV C w' g' u y := by
  intro k t u hk hbb hu hc
  have hi := (Array.getElem?_eq_some_iff.1 ho).1
  have hil : i < listed.size := by rw [inv.size]; exact hi
  by_cases hdt : o.dst = some t
  · have hik : i < k := (hc i o ho hdt).1 ((onL_set hil).2 (.inl rfl))
    obtain ⟨d, rfl⟩ : ∃ d, k = (i + 1) + d := ⟨k - (i + 1), by omega⟩
    obtain ⟨v0, h1, h2⟩ := p.env_same d hk (fun j q hj1 hj2 hq hqd => by
      have hon := (hc j q hq hqd).2 hj2
      rcases (onL_set hil).1 hon with h | h
      · omega
      · rcases D.slots i j o q t ho hq (by omega) hdt (.inl hqd) with hs | hs
        · have := D.bef_lt i o ho j hs; omega
        · have := inv.closed j i h hs
          rw [hoff] at this; cases this) u hu
    rw [hE, hdt] at h1
    simp only [putEnv, lookN, Nat.beq_refl, Option.some.injEq] at h1
    subst h1
    exact ⟨x, put_at.2 hdt (by rw [inv.sz]; exact dstOk_lt hd t hdt), h2 C w' g' x hv⟩
  · obtain ⟨y, h1, h2⟩ := inv.env k t u hk (fun b hb hbar hon => hbb b hb hbar ((onL_set hil).2 (.inr hon))) hu (fun j q hq hqd => by
      have hji : j ≠ i := fun e => by
        subst e
        have : q = o := Option.some.inj (hq.symm.trans ho)
        subst this
        exact hdt hqd
      rw [← hc j q hq hqd, onL_set hil]
      simp [hji])
    exact ⟨y, by rw [put_at.1 hdt]; exact h1, RV_mono ev u y h2⟩

theorem DI.shared {ops : Array Oper} {befs bars : List Nat} {m : Nat} {E : Nat → Env} {H : Nat → Heap} {X : Nat → Nat} {listed : Array Bool} {a : Act} (D : DrawOk ops befs bars) (inv : DI C N ops befs bars m E H X listed a w g) {i : Nat} {o : Oper} (ho : ops[i]? = some o)
    (hready : ∀ j, (befs.getD i 0).testBit j = true → onL listed j = true) : (listed.setIfInBounds i true).size = ops.size ∧ ∀ k j, onL (listed.setIfInBounds i true) k = true → (befs.getD k 0).testBit j = true → onL (listed.setIfInBounds i true) j = true := by
  have hi := (Array.getElem?_eq_some_iff.1 ho).1
  have hil : i < listed.size := by rw [inv.size]; exact hi
  refine ⟨by simp [inv.size], fun k j hk hb => ?_⟩
  rcases (onL_set hil).1 hk with h | h
  · subst h; exact (onL_set hil).2 (.inr (hready j hb))
  · exact (onL_set hil).2 (.inr (inv.closed k j h hb))

/-- One quiet operation more, or one left out. -/
theorem DI.quiet {ops : Array Oper} {befs bars : List Nat} {m : Nat} {E : Nat → Env} {H : Nat → Heap} {X : Nat → Nat} {listed : Array Bool} {a : Act} (D : DrawOk ops befs bars) (hlen : befs.length = ops.size) (p : Path T S ops befs bars m E H X) (inv : DI C N ops befs bars m E H X listed a w g) {i : Nat} {o : Oper} (ho : ops[i]? = some o)
    (hoff : onL listed i = false) (hready : ∀ j, (befs.getD i 0).testBit j = true → onL listed j = true) (hd : dstOk N o = true) {env' : Env} {v : V} {x : Value} {news : Heap} (hE : E (i + 1) = putEnv env' o.dst v) (hH : H (i + 1) = news ++ H i)
    (hn : newsIn (m + 8 * i) news = true) (hbar : memN bars i = false) (q : QRes C w g (m + 8 * i) v news x w' g') : DI C N ops befs bars m E H X (listed.setIfInBounds i true) (a.put o.dst x) w' g' := by
  have hi := (Array.getElem?_eq_some_iff.1 ho).1
  have hil : i < listed.size := by rw [inv.size]; exact hi
  have hFi := (inv.heap i (by omega) (inv.heap_i D hlen ho hoff hready)).F
  obtain ⟨s1, s2⟩ := inv.shared D ho hready
  refine ⟨s1, s2, inv.env_next D p ho hoff hready hd hE (q.evo hFi) q.val, fun k hk hc => ?_, fun id hid => ?_, by rw [put_sz]; exact inv.sz, by rw [put_df]; exact inv.df⟩
  · have hc' : ∀ b, b < ops.size → memN bars b = true → (onL listed b = true ↔ b < k) := fun b hb hbb => by
      have hne : b ≠ i := fun e => by subst e; rw [hbar] at hbb; cases hbb
      rw [← hc b hb hbb, onL_set hil]
      simp [hne]
    refine (inv.heap k hk hc').quiet q |>.part fun id ob hob => ?_
    rw [heapD_look] at hob
    rw [lookN_app]
    split at hob
    · rename_i hcond
      by_cases hsub : id < m ∨ liveL ops.size X listed (sub8 m id) = true
      · have hnone : lookN news id = none := by
          cases hq : lookN news id with
          | none => rfl
          | some o' =>
            obtain ⟨h1, h2⟩ := newsIn_look news hn id o' hq
            rcases hsub with h | h
            · omega
            · have h := live_on h
              rw [sub8_of h1 h2, hoff] at h; cases h
        rw [hnone, heapD_look, if_pos hsub]
        exact hob
      · have hsi : ¬ id < m ∧ sub8 m id = i := by
          rcases hcond with h | h
          · exact absurd (.inl h) hsub
          · rcases live_set hil h with h | h
            · exact ⟨fun h' => hsub (.inl h'), h⟩
            · exact absurd (.inr h) hsub
        have hid := p.ids k hk id ob hob
        have hlo : m + 8 * i ≤ id ∧ id < m + 8 * i + 8 := by unfold sub8 at hsi; omega
        have hik : i < k := by omega
        obtain ⟨d, rfl⟩ : ∃ d, k = (i + 1) + d := ⟨k - (i + 1), by omega⟩
        have h3 := p.heap_same d hk (fun j h1 h2 => by
          cases hb : memN bars j with
          | false => rfl
          | true =>
            have hon := (hc' j (by omega) hb).2 h2
            have hbit := (barrier_out (D.bars _ hb)).1
            have := inv.closed j i hon (by rw [hbit, Nat.testBit_two_pow_sub_one]; simp; omega)
            rw [hoff] at this; cases this) id ob hob (by omega)
        rw [hH, lookN_app] at h3
        cases hq : lookN news id with
        | some o' => rw [hq] at h3; exact h3
        | none =>
          rw [hq] at h3
          have := p.ids i (by omega) id ob h3
          omega
    · cases hob
  · rcases q.U id hid with h | h
    · rcases inv.U id h with h | ⟨j, h1, h2⟩
      · exact .inl h
      · exact .inr ⟨j, (onL_set hil).2 (.inr h1), h2⟩
    · exact .inr ⟨i, (onL_set hil).2 (.inl rfl), h⟩

theorem DI.skip {ops : Array Oper} {befs bars : List Nat} {m : Nat} {E : Nat → Env} {H : Nat → Heap} {X : Nat → Nat} {listed : Array Bool} {a : Act} (D : DrawOk ops befs bars) (hlen : befs.length = ops.size) (p : Path T S ops befs bars m E H X) (inv : DI C N ops befs bars m E H X listed a w g) {i : Nat} {o : Oper} (ho : ops[i]? = some o)
    (hoff : onL listed i = false) (hready : ∀ j, (befs.getD i 0).testBit j = true → onL listed j = true) (hd : dstOk N o = true) {env' : Env} (hE : E (i + 1) = putEnv env' o.dst (.tup [])) (hH : H (i + 1) = H i) :
    DI C N ops befs bars m E H X (listed.setIfInBounds i true) (a.put o.dst undef) w g := by
  have hi := (Array.getElem?_eq_some_iff.1 ho).1
  have hil : i < listed.size := by rw [inv.size]; exact hi
  have Hi := inv.heap i (by omega) (inv.heap_i D hlen ho hoff hready)
  obtain ⟨s1, s2⟩ := inv.shared D ho hready
  refine ⟨s1, s2, inv.env_next D p ho hoff hready hd hE (Evo.refl w g) (by simp only [RV]; exact ⟨[], rfl, rfl⟩), fun k hk hc => ?_, fun id hid => ?_, by rw [put_sz]; exact inv.sz, by rw [put_df]; exact inv.df⟩
  · have main : ∀ k, k ≤ ops.size → (∀ b, b < ops.size → memN bars b = true → b ≠ i → (onL listed b = true ↔ b < k)) → (memN bars i = true → i < k) → RelH C (heapD m (liveL ops.size X (listed.setIfInBounds i true)) (H k)) w g := by
      intro k hk hc hci
      -- the place whose heap stands
      obtain ⟨k', hk', hc', hsub⟩ : ∃ k', k' ≤ ops.size ∧ (∀ b, b < ops.size → memN bars b = true → (onL listed b = true ↔ b < k')) ∧ (∀ id ob, lookN (H k) id = some ob → (id < m ∨ liveL ops.size X (listed.setIfInBounds i true) (sub8 m id) = true) → (id < m ∨ liveL ops.size X listed (sub8 m id) = true) ∧ lookN (H k') id = some ob) := by
        have noi : ∀ id ob, lookN (H k) id = some ob → (id < m ∨ liveL ops.size X (listed.setIfInBounds i true) (sub8 m id) = true) → (∀ b, i < b → b < k → memN bars b = false) → (id < m ∨ liveL ops.size X listed (sub8 m id) = true) := by
          intro id ob hob hcond hnb
          rcases hcond with h | h
          · exact .inl h
          · rcases live_set hil h with h | h
            · by_cases hm : id < m
              · exact .inl hm
              · exfalso
                have hid := p.ids k hk id ob hob
                have hlo : m + 8 * i ≤ id ∧ id < m + 8 * i + 8 := by unfold sub8 at h; omega
                have hik : i < k := by omega
                obtain ⟨d, rfl⟩ : ∃ d, k = (i + 1) + d := ⟨k - (i + 1), by omega⟩
                have h3 := p.heap_same d hk (fun j h1 h2 => hnb j (by omega) h2) id ob hob (by omega)
                rw [hH] at h3
                have := p.ids i (by omega) id ob h3
                omega
            · exact .inr h
        have nob : ∀ b, i < b → b < ops.size → memN bars b = true → onL listed b = false := fun b h1 h2 h3 => by
          cases hon : onL listed b with
          | false => rfl
          | true =>
            have := inv.closed b i hon (by rw [(barrier_out (D.bars _ h3)).1, Nat.testBit_two_pow_sub_one]; simp; omega)
            rw [hoff] at this; cases this
        have hnb : ∀ b, i < b → b < k → memN bars b = false := fun b h1 h2 => by
          cases hb : memN bars b with
          | false => rfl
          | true =>
            have := (hc b (by omega) hb (by omega)).2 h2
            rw [nob b h1 (by omega) hb] at this; cases this
        cases hbi : memN bars i with
        | false =>
          refine ⟨k, hk, fun b hb hbb => ?_, fun id ob hob hcond => ⟨noi id ob hob hcond hnb, hob⟩⟩
          exact hc b hb hbb (fun e => by subst e; rw [hbi] at hbb; cases hbb)
        | true =>
          have hik := hci hbi
          refine ⟨i, by omega, inv.heap_i D hlen ho hoff hready, fun id ob hob hcond => ?_⟩
          have hsub := noi id ob hob hcond hnb
          refine ⟨hsub, ?_⟩
          obtain ⟨d, rfl⟩ : ∃ d, k = (i + 1) + d := ⟨k - (i + 1), by omega⟩
          have hlow : id < m + 8 * (i + 1) := by
            rcases hsub with h | h
            · omega
            · -- only those ahead are done
              have h := live_on h
              have : sub8 m id < i + 1 := by
                rcases Nat.lt_or_ge (sub8 m id) (i + 1) with h' | h'
                · exact h'
                · exfalso
                  have hin : sub8 m id < ops.size := by
                    rw [← inv.size]
                    rcases Nat.lt_or_ge (sub8 m id) listed.size with h'' | h''
                    · exact h''
                    · simp [onL, Array.getElem?_eq_none h''] at h
                  have := inv.closed (sub8 m id) i h ((barrier_out (D.bars _ hbi)).2 _ (by omega) (by omega))
                  rw [hoff] at this; cases this
              unfold sub8 at this; omega
          have h3 := p.heap_same d hk (fun j h1 h2 => hnb j (by omega) h2) id ob hob hlow
          rw [hH] at h3
          exact h3
      refine (inv.heap k' hk' hc').part fun id ob hob => ?_
      rw [heapD_look] at hob ⊢
      split at hob
      · rename_i hcond
        obtain ⟨h1, h2⟩ := hsub id ob hob hcond
        rw [if_pos h1]; exact h2
      · cases hob
    refine main k hk (fun b hb hbb hne => ?_) (fun hbi => (hc i hi hbi).1 ((onL_set hil).2 (.inl rfl)))
    rw [← hc b hb hbb, onL_set hil]
    simp [hne]
  · rcases inv.U id hid with h | ⟨j, h1, h2⟩
    · exact .inl h
    · exact .inr ⟨j, (onL_set hil).2 (.inr h1), h2⟩

/-- One that stands alone. -/
theorem DI.alone {ops : Array Oper} {befs bars : List Nat} {m : Nat} {E : Nat → Env} {H : Nat → Heap} {X : Nat → Nat} {listed : Array Bool} {a : Act} (D : DrawOk ops befs bars) (hlen : befs.length = ops.size) (p : Path T S ops befs bars m E H X) (inv : DI C N ops befs bars m E H X listed a w g) {i : Nat} {o : Oper} (ho : ops[i]? = some o)
    (hoff : onL listed i = false) (hready : ∀ j, (befs.getD i 0).testBit j = true → onL listed j = true) (hbar : memN bars i = true) {env' : Env} (hr : Ref (E i) env') :
    RelS C N (m + 8 * i) env' (heapOf m (less (2 ^ i - 1) (X i)) (H i)) a w g ∧ ∀ a' w' g', RelS C N (m + 8 * i + 8) (E (i + 1)) (H (i + 1)) a' w' g' → DI C N ops befs bars m E H X (listed.setIfInBounds i true) a' w' g' := by
  have hi := (Array.getElem?_eq_some_iff.1 ho).1
  have hil : i < listed.size := by rw [inv.size]; exact hi
  obtain ⟨b1, b2⟩ := barrier_out (D.bars _ hbar)
  have hon : ∀ j, onL listed j = true ↔ j < i := fun j => by
    constructor
    · intro h
      have hjs : j < ops.size := by
        rw [← inv.size]
        rcases Nat.lt_or_ge j listed.size with h' | h'
        · exact h'
        · simp [onL, Array.getElem?_eq_none h'] at h
      rcases Nat.lt_trichotomy j i with h1 | h1 | h1
      · exact h1
      · subst h1; rw [hoff] at h; cases h
      · have := inv.closed j i h (b2 j h1 (by omega))
        rw [hoff] at this; cases this
    · intro h
      exact hready j (by rw [b1, Nat.testBit_two_pow_sub_one]; simp [h])
  have hon' : ∀ j, onL (listed.setIfInBounds i true) j = true ↔ j < i + 1 := fun j => by
    rw [onL_set hil, hon]; omega
  have Hi := inv.heap i (by omega) (inv.heap_i D hlen ho hoff hready)
  refine ⟨⟨Hi.part fun id ob hob => ?_, fun t v ht => ?_, fun id hid => ?_, inv.sz, inv.df⟩, fun a' w' g' r => ?_⟩
  · obtain ⟨h1, h2⟩ := heapOf_look _ _ _ _ _ hob
    rw [heapD_look, if_pos]
    · exact h2
    · rcases h1 with h1 | h1
      · exact .inl h1
      · exact .inr (DI.left p (by omega) hon h1)
  · obtain ⟨v0, h1, h2⟩ := hr t v ht
    obtain ⟨x, h3, h4⟩ := inv.env i t v0 (by omega) (fun b _ _ h => (hon b).1 h) h1 (fun j q _ _ => hon j)
    exact ⟨x, h3, h2 C w g x h4⟩
  · rcases inv.U id hid with h | ⟨j, h1, h2⟩
    · omega
    · have := (hon j).1 h1; omega
  · obtain ⟨s1, s2⟩ := inv.shared D ho hready
    refine ⟨s1, s2, fun k t u hk hbb hu hc => ?_, fun k hk hc => ?_, fun id hid => ?_, r.sz, r.df⟩
    · have hik := hbb i hi hbar ((hon' i).2 (by omega))
      obtain ⟨d, rfl⟩ : ∃ d, k = (i + 1) + d := ⟨k - (i + 1), by omega⟩
      obtain ⟨v0, h1, h2⟩ := p.env_same d hk (fun j q hj1 hj2 hq hqd => by
        have := (hon' j).1 ((hc j q hq hqd).2 hj2); omega) u hu
      obtain ⟨x, h3, h4⟩ := r.E t v0 h1
      exact ⟨x, h3, h2 C w' g' x h4⟩
    · have hik := (hc i hi hbar).1 ((hon' i).2 (by omega))
      obtain ⟨d, rfl⟩ : ∃ d, k = (i + 1) + d := ⟨k - (i + 1), by omega⟩
      refine r.H.part fun id ob hob => ?_
      rw [heapD_look] at hob
      split at hob
      · rename_i hcond
        refine p.heap_same d hk (fun j h1 h2 => ?_) id ob hob ?_
        · cases hb : memN bars j with
          | false => rfl
          | true => have := (hon' j).1 ((hc j (by omega) hb).2 h2); omega
        · rcases hcond with h | h
          · omega
          · have := (hon' _).1 (live_on h)
            unfold sub8 at this; omega
      · cases hob
    · have := r.ub id hid
      by_cases hm : id < m
      · exact .inl hm
      · refine .inr ⟨(id - m) / 8, (hon' _).2 (by omega), by omega, by omega⟩

theorem viewL_up {h h0 : Heap} {own : Bool} {e : Ty} (hs : ∀ id o, lookN h id = some o → lookN h0 id = some o) {v : V} {ys : List e.den} (hv : viewL h own e v = some ys) : viewL h0 own e v = some ys := by
  cases v <;> simp only [viewL] at hv ⊢ <;> try exact hv
  rename_i id
  cases ho : lookN h id with
  | none => simp [ho] at hv
  | some o => rw [ho] at hv; rw [hs id o ho]; exact hv
theorem toDen_up {h h0 : Heap} {own : Bool} (hs : ∀ id o, lookN h id = some o → lookN h0 id = some o) : ∀ (e : Ty) (cs : List V) (x : e.den) (r : List V), toDen h own e cs = some (x, r) → toDen h0 own e cs = some (x, r)
  | .bool, cs, x, r, hd => by
    cases cs with
    | nil => simp [toDen] at hd
    | cons v cs => cases v <;> simp only [toDen] at hd ⊢ <;> first | exact hd | simp at hd
  | .int k, cs, x, r, hd => by
    cases cs with
    | nil => simp [toDen] at hd
    | cons v cs => cases v <;> simp only [toDen] at hd ⊢ <;> first | exact hd | simp at hd
  | .str, cs, x, r, hd => by
    cases cs with
    | nil => simp [toDen] at hd
    | cons v cs => cases v <;> simp only [toDen] at hd ⊢ <;> first | exact hd | simp at hd
  | .slice e, cs, x, r, hd => by
    cases cs with
    | nil => simp [toDen] at hd
    | cons v cs =>
      simp only [toDen] at hd ⊢
      cases hv : viewL h own e v with
      | none => simp [hv] at hd
      | some ys =>
        rw [hv] at hd
        rw [viewL_up hs hv]; exact hd
  | .pair a b, cs, x, r, hd => by
    simp only [toDen] at hd ⊢
    cases h1 : toDen h own a cs with
    | none => simp [h1] at hd
    | some p =>
      obtain ⟨y, r1⟩ := p
      simp only [h1] at hd
      cases h2 : toDen h own b r1 with
      | none => simp [h2] at hd
      | some q =>
        obtain ⟨z, r2⟩ := q
        simp only [h2] at hd
        simp only [toDen_up hs a cs y r1 h1, toDen_up hs b r1 z r2 h2]
        exact hd
theorem toRows_up {h h0 : Heap} (hs : ∀ id o, lookN h id = some o → lookN h0 id = some o) (e : Ty) : ∀ (n : Nat) (cs : List V) (xs : List e.den), toRows h e n cs = some xs → toRows h0 e n cs = some xs
  | 0, [], xs, hd => by simpa [toRows] using hd
  | 0, _ :: _, xs, hd => by simp [toRows] at hd
  | n + 1, cs, xs, hd => by
    simp only [toRows] at hd ⊢
    cases h1 : toDen h false e cs with
    | none => simp [h1] at hd
    | some p =>
      obtain ⟨y, r1⟩ := p
      simp only [h1] at hd
      cases h2 : toRows h e n r1 with
      | none => simp [h2] at hd
      | some ys =>
        simp only [h2] at hd
        simp only [toDen_up hs e cs y r1 h1, toRows_up hs e n r1 ys h2]
        exact hd
theorem freezeAll_own (h : Heap) (id : Nat) (r : List V) : freezeAll h (.own id :: r) = freezeAll (match lookN h id with | some (.arr _ e xs) => setObj h id (.ice e xs) | _ => h) r := by
  simp only [freezeAll]
  split
  · rename_i ho; rw [ho]
  · rename_i hn
    split
    · rename_i ho; exact absurd ho (hn _ _ _)
    · rfl
theorem freezeAll_skip (h : Heap) (v : V) (r : List V) (hv : ∀ id, v ≠ .own id) : freezeAll h (v :: r) = freezeAll h r := by
  cases v <;> first | rfl | exact absurd rfl (hv _)
theorem freezeAll_up : ∀ (cs : List V) (h h0 : Heap), (∀ id o, lookN h id = some o → lookN h0 id = some o) → ∀ id o, lookN (freezeAll h cs) id = some o → lookN (freezeAll h0 cs) id = some o
  | [], h, h0, hs => hs
  | v :: r, h, h0, hs => by
    by_cases hv : ∃ id, v = .own id
    · obtain ⟨id, rfl⟩ := hv
      rw [freezeAll_own, freezeAll_own]
      refine freezeAll_up r _ _ fun k o hk => ?_
      cases hl : lookN h id with
      | none =>
        simp only [hl] at hk
        have hne : k ≠ id := fun e => by subst e; rw [hl] at hk; cases hk
        cases hl0 : lookN h0 id with
        | none => simpa [hl0] using hs k o hk
        | some o0 =>
          cases o0 <;> simp only <;> first | exact hs k o hk | (rw [lookN_setObj, if_neg hne]; exact hs k o hk)
      | some o1 =>
        rw [hs id o1 hl]
        rw [hl] at hk
        cases o1 <;> simp only at hk ⊢ <;> try exact hs k o hk
        rw [lookN_setObj] at hk ⊢
        by_cases hki : k = id
        · rw [if_pos hki, hl] at hk
          rw [if_pos hki, hs id _ hl]; exact hk
        · rw [if_neg hki] at hk ⊢; exact hs k o hk
    · rw [freezeAll_skip _ _ _ (fun id e => hv ⟨id, e⟩), freezeAll_skip _ _ _ (fun id e => hv ⟨id, e⟩)]
      exact freezeAll_up r h h0 hs
theorem freezeAll_other {id : Nat} : ∀ (cs : List V) (h : Heap), (∀ k, .own k ∈ cs → k = id) → ∀ k, k ≠ id → lookN (freezeAll h cs) k = lookN h k
  | [], h, _, k, _ => rfl
  | v :: r, h, hc, k, hk => by
    by_cases hv : ∃ id, v = .own id
    · obtain ⟨j, rfl⟩ := hv
      have hj := hc j (by simp)
      subst hj
      rw [freezeAll_own, freezeAll_other r _ (fun q hq => hc q (by simp [hq])) k hk]
      split
      · rw [lookN_setObj, if_neg hk]
      · rfl
    · rw [freezeAll_skip _ _ _ (fun id e => hv ⟨id, e⟩)]
      exact freezeAll_other r h (fun q hq => hc q (by simp [hq])) k hk
theorem ownCells_mem : ∀ (l : List V) (k : Nat), .own k ∈ l → k ∈ ownCells l
  | [], k, h => by simp at h
  | v :: r, k, h => by
    rcases List.mem_cons.1 h with h | h
    · subst h; simp [ownCells]
    · have := ownCells_mem r k h
      cases v <;> simp only [ownCells] <;> first | exact this | exact List.mem_cons_of_mem _ this
theorem fillV_mem {places : Nat → Option (Nat × Nat)} : ∀ (parts : List (Nat × V)) (cs out : List V), fillV places parts cs = some out → ∀ v ∈ out, v ∈ cs ∨ v ∈ parts.flatMap (fun p => p.2.cells)
  | [], cs, out, h, v, hv => by simp only [fillV, Option.some.injEq] at h; subst h; exact .inl hv
  | (j, u) :: r, cs, out, h, v, hv => by
    simp only [fillV] at h
    split at h <;> try (simp at h; done)
    split at h <;> try (simp at h; done)
    rename_i off size _ _
    rcases fillV_mem r _ out h v hv with h1 | h1
    · unfold setAt at h1
      rcases List.mem_append.1 h1 with h1 | h1
      · rcases List.mem_append.1 h1 with h1 | h1
        · exact .inl (List.mem_of_mem_take h1)
        · exact .inr (by simp [h1])
      · exact .inl (List.mem_of_mem_drop h1)
    · exact .inr (by rw [List.flatMap_cons]; exact List.mem_append_right _ h1)
theorem repL_mem {α : Type} {l : List α} {x : α} : ∀ (n : Nat), x ∈ repL l n → x ∈ l
  | 0, h => by simp [repL] at h
  | n + 1, h => by
    simp only [repL] at h
    rcases List.mem_append.1 h with h | h
    · exact h
    · exact repL_mem n h
theorem zero_own {zs : List ZC} {k : Nat} (h : V.own k ∈ zs.map zeroV) : False := by
  obtain ⟨z, _, hz⟩ := List.mem_map.1 h
  cases z <;> simp [zeroV] at hz
theorem stepE_out {o : Oper} {m fresh c : Nat} {env : Env} {hv : Heap} {cs : List Prop} {v : V} {ob : Obj} (hc : eatC o m env = some c) (hq : stepE T S o fresh env hv = some (cs, v, ob)) :
    ∃ id, m ≤ id ∧ sub8 m id = c ∧ (∃ ob0, lookN hv id = some ob0) ∧ ∀ h0, (∀ id o, lookN hv id = some o → lookN h0 id = some o) → ∃ h1, stepW1 T S o fresh env h0 = some (cs, v, (fresh, ob) :: h1) ∧ ∀ k, k ≠ id → lookN h1 k = lookN h0 k := by
  unfold eatC at hc
  split at hc <;> try (simp at hc; done)
  rename_i id hI
  split at hc <;> try (simp at hc; done)
  rename_i hle
  simp only [Option.some.injEq] at hc
  unfold stepE at hq
  rw [hI] at hq
  simp only at hq
  split at hq <;> try (simp at hq; done)
  rename_i ob0 hob0
  refine ⟨id, Nat.le_of_ble_eq_true hle, hc, ⟨ob0, hob0⟩, fun h0 hs => ?_⟩
  split at hq <;> try (simp at hq; done)
  rename_i c' v' f ob' rest hst
  split at hq <;> try (simp at hq; done)
  rename_i hf
  obtain rfl := Nat.eq_of_beq_eq_true hf
  simp only [Option.some.injEq, Prod.mk.injEq] at hq
  obtain ⟨rfl, rfl, rfl⟩ := hq
  unfold eatI at hI
  split at hI <;> try (simp at hI; done)
  · rename_i args ts ho
    split at hI <;> try (simp at hI; done)
    rename_i s r hargs
    split at hI <;> try (simp at hI; done)
    rename_i id' hid
    simp only [Option.some.injEq] at hI
    subst hI
    unfold stepW1 at hst ⊢
    simp only [ho] at hst ⊢
    split at hst <;> try (simp at hst; done)
    rename_i s' x t t' h1 h2
    rw [h1] at hargs
    obtain ⟨rfl, rfl⟩ : s' = s ∧ [x] = r := by simpa using hargs
    cases hb : Nat.beq t t'
    · simp [hb] at hst
    simp only [hb, appendV, hid] at hst
    cases he : elemT T t with
    | none => simp [he] at hst
    | some p =>
      obtain ⟨te, e, bytes, zero⟩ := p
      simp only [he] at hst
      cases hvw : viewL hv true e (rd env x) with
      | none => simp [hvw] at hst
      | some ys =>
        simp only [hvw] at hst
        cases hl : lookN hv id' with
        | none => simp [hl] at hst
        | some o0 =>
          cases o0 <;> simp only [hl] at hst <;> try (simp at hst; done)
          rename_i te' e' xs'
          simp only [hb, appendV, hid, he, viewL_up hs hvw, hs id' _ hl]
          cases hbt : Nat.beq te te'
          · simp [hbt] at hst
          cases hcast : castL e' e xs' with
          | none => simp [hbt, hcast] at hst
          | some xs =>
            simp only [hbt, hcast, Option.some.injEq, Prod.mk.injEq, List.cons.injEq] at hst
            obtain ⟨rfl, rfl, ⟨_, rfl⟩, _⟩ := hst
            exact ⟨delObj h0 id', rfl, fun k hk => by rw [lookN_delObj, if_neg hk]⟩
  · rename_i t len parts ho
    split at hI <;> try (simp at hI; done)
    rename_i id' hown
    simp only [Option.some.injEq] at hI
    subst hI
    unfold stepW1 at hst ⊢
    simp only [ho, buildSliceV] at hst ⊢
    split at hst <;> try (simp at hst; done)
    rename_i te e bytes zero he
    split at hst <;> try (simp at hst; done)
    rename_i cells hfill hz
    split at hst <;> try (simp at hst; done)
    rename_i xs hrows
    simp only [Option.some.injEq, Prod.mk.injEq, List.cons.injEq] at hst
    obtain ⟨rfl, rfl, ⟨_, rfl⟩, _⟩ := hst
    rw [toRows_up (freezeAll_up cells hv h0 hs) e len cells xs hrows]
    refine ⟨freezeAll h0 cells, rfl, freezeAll_other cells h0 fun k hk => ?_⟩
    rcases fillV_mem _ _ _ hfill _ hk with h1 | h1
    · exact (zero_own (repL_mem _ h1)).elim
    · have h2 : V.own k ∈ parts.toList.flatMap fun p => (rd env p.2).cells := by
        simpa [List.flatMap_map] using h1
      have := ownCells_mem _ _ h2
      rw [hown] at this
      simpa using this
/-- The next that stands alone, or the end. -/
theorem next_bar (bars : List Nat) (n : Nat) : ∀ (d i : Nat), i + d = n → ∃ K, i ≤ K ∧ K ≤ n ∧ (∀ j, i ≤ j → j < K → memN bars j = false) ∧ (K = n ∨ memN bars K = true)
  | 0, i, h => ⟨i, Nat.le_refl _, by omega, fun j h1 h2 => by omega, .inl (by omega)⟩
  | d + 1, i, h => by
    cases hb : memN bars i with
    | true => exact ⟨i, Nat.le_refl _, by omega, fun j h1 h2 => by omega, .inr hb⟩
    | false =>
      obtain ⟨K, h1, h2, h3, h4⟩ := next_bar bars n d (i + 1) (by omega)
      refine ⟨K, by omega, h2, fun j h5 h6 => ?_, h4⟩
      rcases Nat.lt_or_ge i j with h7 | h7
      · exact h3 j (by omega) h6
      · have : j = i := by omega
        subst this; exact hb
/-- The whole heap that is there: what every place tells of it, and what is seen. -/
theorem DI.whole {ops : Array Oper} {befs bars : List Nat} {m : Nat} {E : Nat → Env} {H : Nat → Heap} {X : Nat → Nat} {listed : Array Bool} {a : Act} (D : DrawOk ops befs bars) (hlen : befs.length = ops.size) (p : Path T S ops befs bars m E H X) (inv : DI C N ops befs bars m E H X listed a w g) {i : Nat} {o : Oper} (ho : ops[i]? = some o)
    (hoff : onL listed i = false) (hready : ∀ j, (befs.getD i 0).testBit j = true → onL listed j = true) (hbar : memN bars i = false) : ∃ h0, RelH C h0 w g ∧ (∀ id o, lookN (heapOf m (less (befs.getD i 0) (X i)) (H i)) id = some o → lookN h0 id = some o) ∧
      ∀ k, k ≤ ops.size → (∀ b, b < ops.size → memN bars b = true → (onL listed b = true ↔ b < k)) → ∀ id o, lookN (H k) id = some o → (id < m ∨ liveL ops.size X listed (sub8 m id) = true) → lookN h0 id = some o := by
  have hi := (Array.getElem?_eq_some_iff.1 ho).1
  have hbi := inv.heap_i D hlen ho hoff hready
  obtain ⟨K, k1, k2, k3, k4⟩ := next_bar bars ops.size (ops.size - i) i (by omega)
  have hK : ∀ b, b < ops.size → memN bars b = true → (onL listed b = true ↔ b < K) := fun b hb hbb => by
    rw [hbi b hb hbb]
    constructor
    · omega
    · intro h
      rcases Nat.lt_or_ge b i with h1 | h1
      · exact h1
      · rw [k3 b h1 h] at hbb; cases hbb
  have back : ∀ k, k ≤ ops.size → (∀ b, b < ops.size → memN bars b = true → (onL listed b = true ↔ b < k)) → ∀ id o, lookN (H k) id = some o → (id < m ∨ liveL ops.size X listed (sub8 m id) = true) → lookN (heapD m (liveL ops.size X listed) (H K)) id = some o := by
    intro k hk hc id ob hob hl
    have hkK : k ≤ K := by
      rcases Nat.lt_or_ge K k with h | h
      · rcases k4 with h4 | h4
        · omega
        · have h5 := (hc K (by omega) h4).2 h
          have := (hK K (by omega) h4).1 h5
          omega
      · exact h
    rw [heapD_look, if_pos hl]
    obtain ⟨d, rfl⟩ : ∃ d, K = k + d := ⟨K - k, by omega⟩
    refine p.heap_more d k2 (fun j h1 h2 => ?_) id ob hob
    cases hb : memN bars j with
    | false => rfl
    | true =>
      have h5 := (hK j (by omega) hb).2 h2
      have := (hc j (by omega) hb).1 h5
      omega
  refine ⟨_, inv.heap K k2 hK, fun id ob hob => ?_, back⟩
  obtain ⟨h1, h2⟩ := heapOf_look _ _ _ _ _ hob
  refine back i (by omega) hbi id ob h2 ?_
  rcases h1 with h1 | h1
  · exact .inl h1
  · exact .inr (DI.sees p inv.closed ho hoff hready h1)
/-- One that takes the place of what another made. -/
theorem DI.eater {ops : Array Oper} {befs bars : List Nat} {m : Nat} {E : Nat → Env} {H : Nat → Heap} {X : Nat → Nat} {listed : Array Bool} {a : Act} (D : DrawOk ops befs bars) (hlen : befs.length = ops.size) (p : Path T S ops befs bars m E H X) (inv : DI C N ops befs bars m E H X listed a w g) {i : Nat} {o : Oper} (ho : ops[i]? = some o)
    (hoff : onL listed i = false) (hready : ∀ j, (befs.getD i 0).testBit j = true → onL listed j = true) (hd : dstOk N o = true) {env' : Env} {v : V} {x : Value} {ob : Obj} {c id : Nat} {h0 h1 : Heap} (hE : E (i + 1) = putEnv env' o.dst v) (hH : H (i + 1) = (m + 8 * i, ob) :: H i) (hX : X (i + 1) = X i ||| 2 ^ c)
    (hbar : memN bars i = false) (hid : m ≤ id) (hsub : sub8 m id = c) (hnd : (X i).testBit c = false) (hF : ∀ b, g.F b → b < w.heap.size) (hdel : ∀ k, k ≠ id → lookN h1 k = lookN h0 k) (q : WRes C w g (m + 8 * i) v ((m + 8 * i, ob) :: h1) x w' g')
    (hback : ∀ k, k ≤ ops.size → (∀ b, b < ops.size → memN bars b = true → (onL listed b = true ↔ b < k)) → ∀ id o, lookN (H k) id = some o → (id < m ∨ liveL ops.size X listed (sub8 m id) = true) → lookN h0 id = some o) :
    DI C N ops befs bars m E H X (listed.setIfInBounds i true) (a.put o.dst x) w' g' := by
  have hi := (Array.getElem?_eq_some_iff.1 ho).1
  have hil : i < listed.size := by rw [inv.size]; exact hi
  obtain ⟨s1, s2⟩ := inv.shared D ho hready
  refine ⟨s1, s2, inv.env_next D p ho hoff hready hd hE q.evo q.val, fun k hk hc => ?_, fun id' hid' => ?_, by rw [put_sz]; exact inv.sz, by rw [put_df]; exact inv.df⟩
  · have hc' : ∀ b, b < ops.size → memN bars b = true → (onL listed b = true ↔ b < k) := fun b hb hbb => by
      have hne : b ≠ i := fun e => by subst e; rw [hbar] at hbb; cases hbb
      rw [← hc b hb hbb, onL_set hil]
      simp [hne]
    refine q.rel.part fun id' ob' hob => ?_
    rw [heapD_look] at hob
    split at hob
    · rename_i hcond
      simp only [lookN]
      have hidk := p.ids k hk id' ob' hob
      by_cases hsi : ¬ id' < m ∧ sub8 m id' = i
      · have hlo : m + 8 * i ≤ id' ∧ id' < m + 8 * i + 8 := by unfold sub8 at hsi; omega
        have hik : i < k := by omega
        obtain ⟨d, rfl⟩ : ∃ d, k = (i + 1) + d := ⟨k - (i + 1), by omega⟩
        have h3 := p.heap_same d hk (fun j h1 h2 => by
          cases hb : memN bars j with
          | false => rfl
          | true =>
            have hon := (hc' j (by omega) hb).2 h2
            have hbit := (barrier_out (D.bars _ hb)).1
            have := inv.closed j i hon (by rw [hbit, Nat.testBit_two_pow_sub_one]; simp; omega)
            rw [hoff] at this; cases this) id' ob' hob (by omega)
        rw [hH] at h3
        simp only [lookN] at h3
        cases hb : Nat.beq (m + 8 * i) id'
        · rw [hb] at h3
          have := p.ids i (by omega) id' ob' h3
          omega
        · rw [hb] at h3; exact h3
      · have hlv : id' < m ∨ liveL ops.size X listed (sub8 m id') = true := by
          by_cases hm : id' < m
          · exact .inl hm
          · rcases hcond with h | h
            · exact absurd h hm
            · rcases live_set hil h with h1 | h1
              · exact absurd ⟨hm, h1⟩ hsi
              · exact .inr h1
        have hne : id' ≠ id := fun e => by
          subst e
          rcases hcond with h | h
          · omega
          · rw [hsub] at h
            have := (live_iff.1 h).2 i ⟨hi, by rw [hX, Nat.testBit_or, Nat.testBit_two_pow]; simp, hnd⟩
            rw [(onL_set hil).2 (.inl rfl)] at this; cases this
        have hn8 : Nat.beq (m + 8 * i) id' = false := by
          cases hb : Nat.beq (m + 8 * i) id' with
          | false => rfl
          | true =>
            have := Nat.eq_of_beq_eq_true hb
            exact absurd ⟨by omega, by unfold sub8; omega⟩ hsi
        rw [hn8]
        show lookN h1 id' = _
        rw [hdel id' hne]
        exact hback k hk hc' id' ob' hob hlv
    · cases hob
  · rcases q.U id' hid' with h | h
    · rcases inv.U id' h with h | ⟨j, h1, h2⟩
      · exact .inl h
      · exact .inr ⟨j, (onL_set hil).2 (.inr h1), h2⟩
    · exact .inr ⟨i, (onL_set hil).2 (.inl rfl), h⟩

theorem DI.yields {ops : Array Oper} {befs bars : List Nat} {m : Nat} {E : Nat → Env} {H : Nat → Heap} {X : Nat → Nat} {listed : Array Bool} {a : Act} (D : DrawOk ops befs bars) (hlen : befs.length = ops.size) (inv : DI C N ops befs bars m E H X listed a w g) {i : Nat} {o : Oper} (ho : ops[i]? = some o)
    (hoff : onL listed i = false) (hready : ∀ j, (befs.getD i 0).testBit j = true → onL listed j = true) {env' : Env} (hr : Ref (E i) env') {j d : Nat} {want y : Bool} (hg : o.guard = some (j, want)) (hs : guardSlot ops j = some d) (hl : lookN env' d = some (.bl y)) : yielded ops a.tmps j = some y := by
  have hin : d ∈ operTmps ops o := by
    unfold operTmps
    rw [hg]
    simp [hs]
  exact yielded_of (inv.rel_env D hlen ho hoff hready hr) hs (keepEnv_has _ _ _ _ hin hl)

theorem count_set : ∀ (l : List Bool) (i : Nat), l[i]? = some false → (l.set i true).count false + 1 = l.count false
  | [], i, h => by simp at h
  | b :: l, 0, h => by simp at h; subst h; simp
  | b :: l, i + 1, h => by
    have := count_set l i (by simpa using h)
    simp only [List.set_cons_succ, List.count_cons]
    omega

theorem draw_any (hT : TabOk C.P T) (hS : SpecsOk C.P S) {ops : Array Oper} {befs bars : List Nat} {m : Nat} {E : Nat → Env} {H : Nat → Heap} {X : Nat → Nat} (D : DrawOk ops befs bars) (hlen : befs.length = ops.size) (p : Path T S ops befs bars m E H X) (hok : ∀ o ∈ ops.toList, dstOk N o = true) {Q : Exit → Act → World → Prop}
    (hQ : ∀ a w g, RelS C N (m + 8 * ops.size) (E ops.size) (heapOf m (less (2 ^ ops.size - 1) (X ops.size)) (H ops.size)) a w g → Q .normal a w) : ∀ (fuel : Nat) (listed : Array Bool) (a : Act) (w : World) (g : Gh), listed.toList.count false = fuel → DI C N ops befs bars m E H X listed a w g → wpAny C.P .any ops Q fuel listed a w := by
  have ready : ∀ {listed : Array Bool} {a : Act} {w : World} {g : Gh}, DI C N ops befs bars m E H X listed a w g → ∀ i ∈ Region.ready .any ops listed, ∃ o, ops[i]? = some o ∧ onL listed i = false ∧ (∀ j, (befs.getD i 0).testBit j = true → onL listed j = true) ∧ listed[i]? = some false := by
    intro listed a w g inv i hi
    obtain ⟨h1, o, ho, hall⟩ := mem_ready.1 hi
    have his : i < listed.size := by rw [inv.size]; exact (Array.getElem?_eq_some_iff.1 ho).1
    have hoff : listed[i]? = some false := by simp [his] at h1 ⊢; exact h1
    refine ⟨o, ho, by simp [onL, hoff], fun j hj => ?_, hoff⟩
    obtain ⟨e, he, h⟩ := D.via i o ho j hj
    have hon := hall e (mem_aft.1 he).1 (mem_aft.1 he).2
    rcases h with h | h
    · subst h; exact hon
    · exact inv.closed e.on j hon h
  have full : ∀ {listed : Array Bool} {a : Act} {w : World} {g : Gh}, DI C N ops befs bars m E H X listed a w g → Region.ready .any ops listed = [] → Q .normal a w := by
    intro listed a w g inv hr
    have all : ∀ j, j < ops.size → onL listed j = true := by
      intro j
      induction j using Nat.strongRecOn with
      | _ j ih =>
        intro hj
        cases hon : onL listed j with
        | true => rfl
        | false =>
          exfalso
          have : j ∈ Region.ready .any ops listed := by
            refine mem_ready.2 ⟨getD_in (by rw [inv.size]; exact hj) hon, ops[j], by simp [hj], fun e he hb => ?_⟩
            have hlt := D.lt j ops[j] (by simp [hj]) e (mem_aft.2 ⟨he, hb⟩)
            exact ih e.on hlt (by omega)
          rw [hr] at this
          cases this
    have hon : ∀ j, onL listed j = true ↔ j < ops.size := fun j => ⟨fun h => by
      rw [← inv.size]
      rcases Nat.lt_or_ge j listed.size with h' | h'
      · exact h'
      · simp [onL, Array.getElem?_eq_none h'] at h, all j⟩
    refine hQ a w g ⟨(inv.heap ops.size (Nat.le_refl _) fun b _ _ => hon b).part fun id ob hob => (by
      obtain ⟨h1, h2⟩ := heapOf_look _ _ _ _ _ hob
      rw [heapD_look, if_pos]
      · exact h2
      · rcases h1 with h1 | h1
        · exact .inl h1
        · exact .inr (DI.left p (Nat.le_refl _) hon h1)), fun t v ht => inv.env ops.size t v (Nat.le_refl _) (fun b hb _ _ => hb) ht fun j q _ _ => hon j, fun id hid => ?_, inv.sz, inv.df⟩
    · rcases inv.U id hid with h | ⟨j, h1, h2⟩
      · omega
      · have := (hon j).1 h1; omega
  intro fuel
  induction fuel with
  | zero =>
    intro listed a w g hf inv
    have hnil : Region.ready .any ops listed = [] := by
      cases hr : Region.ready .any ops listed with
      | nil => rfl
      | cons i r =>
        exfalso
        obtain ⟨o, ho, hoff, _, hl⟩ := ready inv i (by rw [hr]; simp)
        have : false ∈ listed.toList := Array.mem_toList_iff.2 (Array.mem_of_getElem? hl)
        exact List.count_eq_zero.1 hf this
    exact ⟨hnil, full inv hnil⟩
  | succ fuel ih =>
    intro listed a w g hf inv
    refine ⟨full inv, fun i hi => ?_⟩
    obtain ⟨o, ho, hoff, hready, hl⟩ := ready inv i hi
    have hcount : (listed.setIfInBounds i true).toList.count false = fuel := by
      have := count_set listed.toList i (by simpa using hl)
      simp only [Array.toList_setIfInBounds]
      omega
    have hdo := hok o (by simpa using Array.mem_of_getElem? ho)
    obtain ⟨env', hr, hs⟩ := p.step i o ho
    have hrunw : runs ops o env' → Region.wanted o (yielded ops a.tmps) = true := by
      intro hrun
      unfold runs at hrun
      split at hrun
      · rename_i hg; simp [Region.wanted, hg]
      · rename_i j want hg
        obtain ⟨d, h1, h2⟩ := hrun
        have hy := inv.yields D hlen ho hoff hready hr hg h1 h2
        simp [Region.wanted, hg, hy]
    unfold wpOp
    simp only [ho]
    rcases hs with ⟨⟨j, want, d, hg, h1, h2⟩, hE, hH, _⟩ | ⟨hrun, hbar, hst, _, _, _⟩ | ⟨hrun, hbar, ⟨c, v, news, hq, hc, hn, hE, hH⟩, _⟩ | ⟨hrun, hbar, c, cs, v, ob, hec, heo, hq, hc, hE, hH, hX⟩
    · have : Region.wanted o (yielded ops a.tmps) = false := by
        rcases h2 with ⟨y, h2, hne⟩ | h2
        · have hy := inv.yields D hlen ho hoff hready hr hg h1 h2
          simp only [Region.wanted, hg, hy]
          cases y <;> cases want <;> simp_all
        · have hin : d ∈ operTmps ops o := by
            unfold operTmps
            rw [hg]
            simp [h1]
          have hy := yielded_none (inv.rel_env D hlen ho hoff hready hr) h1 (keepEnv_has _ _ _ _ hin h2)
          simp only [Region.wanted, hg, hy]
          rfl
      rw [this]
      simp only [Bool.false_eq_true, if_false]
      exact ih _ _ _ g hcount (inv.skip D hlen p ho hoff hready hdo hE hH)
    · rw [if_pos (hrunw hrun)]
      left
      obtain ⟨r, hnext⟩ := inv.alone D hlen p ho hoff hready hbar hr
      refine stepKD_sound hT hS r hdo hst _ Q fun env2 h2 a2 w2 g2 hk r2 => ?_
      obtain ⟨rfl, rfl⟩ := hk
      exact ih _ _ _ g2 hcount (hnext a2 w2 g2 r2)
    · rw [if_pos (hrunw hrun)]
      left
      have hi := (Array.getElem?_eq_some_iff.1 ho).1
      have Hi := inv.heap i (by omega) (inv.heap_i D hlen ho hoff hready)
      have Hr : RelH C (heapOf m (less (befs.getD i 0) (X i)) (H i)) w g := Hi.part fun id ob hob => by
        obtain ⟨h1, h2⟩ := heapOf_look _ _ _ _ _ hob
        rw [heapD_look, if_pos]
        · exact h2
        · rcases h1 with h1 | h1
          · exact .inl h1
          · exact .inr (DI.sees p inv.closed ho hoff hready h1)
      have hfresh : FreshIds g (m + 8 * i) := fun id h1 h2 hU => by
        rcases inv.U id hU with h | ⟨j, h3, h4⟩
        · omega
        · have : j = i := by omega
          subst this
          rw [hoff] at h3; cases h3
      exact stepQ_sound hT hS Hr hfresh (inv.rel_env D hlen ho hoff hready hr) hq hc _ Q fun x w' ⟨g', q⟩ => ih _ _ _ g' hcount (inv.quiet D hlen p ho hoff hready hdo hE hH hn hbar q)
    · rw [if_pos (hrunw hrun)]
      left
      have hfresh : FreshIds g (m + 8 * i) := fun id h1 h2 hU => by
        rcases inv.U id hU with h | ⟨j, h3, h4⟩
        · omega
        · have : j = i := by omega
          subst this
          rw [hoff] at h3; cases h3
      obtain ⟨id, hid1, hid2, ⟨ob0, hob0⟩, hup⟩ := stepE_out hec hq
      obtain ⟨h0, R0, hsub, hback⟩ := inv.whole D hlen p ho hoff hready hbar
      obtain ⟨h1, hup, hdel⟩ := hup h0 hsub
      refine stepW1_sound hT hS R0 hfresh (inv.rel_env D hlen ho hoff hready hr) hup hc _ Q fun x w' ⟨g', q⟩ => ih _ _ _ g' hcount ?_
      refine inv.eater D hlen p ho hoff hready hdo hE hH hX hbar hid1 hid2 ?_ R0.F hdel q hback
      have := (heapOf_look _ _ _ _ _ hob0).1
      rw [hid2] at this
      rcases this with h | h
      · omega
      · rw [less_bit, Bool.and_eq_true] at h
        simpa using h.2

theorem vdraw_any (hT : TabOk C.P T) (hS : SpecsOk C.P S) {ops : Array Oper} (hok : ∀ o ∈ ops.toList, dstOk N o = true) {m : Nat} {befs bars : List Nat} (hd2 : drawOkP ops befs bars = true) {env : Env} {K : Env → Heap → Prop} {a : Act}
    (hs : vdraw T S ops befs bars m 0 0 ops.toList env h K) (r : RelS C N m env h a w g) {Q : Exit → Act → World → Prop} (hK : ∀ env h a w g, K env h → RelS C N (m + 8 * ops.size) env h a w g → Q .normal a w) :
    wpAny C.P .any ops Q ops.size (Array.replicate ops.size false) a { w with drawn := w.drawn + 1 } := by
  simp only [drawOkP, Bool.and_eq_true, decide_eq_true_eq] at hd2
  obtain ⟨hd, rfl, hbs⟩ := hd2
  have D := drawOk_out (bars := bars) hd (fun b hb => List.all_eq_true.1 hbs b ((memN_iff bars b).1 hb))
  have hlen : (befores ops.toList []).length = ops.size := by
    obtain ⟨l, h1, h2⟩ := befores_app ops.toList []
    rw [h1]; simp [h2]
  obtain ⟨E, H, X, hE, hH, hX, hst, hk⟩ := vdraw_path ops.toList 0 0 env h hs
  simp only [Nat.zero_add, Array.length_toList] at hst hk
  have p : Path T S ops (befores ops.toList []) bars m E H X := ⟨fun i o ho => hst i o (by simpa using ho), fun id ob hob => by
    rw [hH] at hob
    exact r.ub id (r.H.obj id ob hob).1, hX⟩
  refine draw_any hT hS D hlen p hok (fun a w g r => hK _ _ a w g hk r) _ _ a _ g (by simp) ?_
  refine ⟨by simp, fun i j hi => ?_, fun k t v hk hb hv hc => ?_, fun k hk hc => ?_, fun id hid => .inl (r.ub id hid), r.sz, r.df⟩
  · simp only [onL, getD_replicate_false] at hi; cases hi
  · obtain ⟨v0, h1, h2⟩ := p.env_same (i := 0) k (by omega) (fun j q _ hj hq hqd => by
      have := (hc j q hq hqd).2 (by omega)
      simp only [onL, getD_replicate_false] at this; cases this) v (by simpa using hv)
    rw [hE] at h1
    obtain ⟨x, h3, h4⟩ := r.E t v0 h1
    exact ⟨x, h3, RV_mono (Evo.drawn w g _) _ _ (h2 C w g x h4)⟩
  · refine (r.H.drawn (w.drawn + 1)).part fun id ob hob => ?_
    rw [heapD_look] at hob
    split at hob
    · rename_i hcond
      have hlt : id < m := by
        rcases hcond with h1 | h1
        · exact h1
        · have h1 := live_on h1
          simp only [onL, getD_replicate_false] at h1; cases h1
      have := p.heap_same (i := 0) k (by omega) (fun j _ hj => by
        cases hb : memN bars j with
        | false => rfl
        | true =>
          have := (hc j (by omega) hb).2 (by omega)
          simp only [onL, getD_replicate_false] at this; cases this) id ob (by simpa using hob) (by omega)
      rw [hH] at this
      exact this
    · cases hob

/-! ## The last operations, all alone -/
theorem wp_exits {P : Program} {o : Oper} {a : Act} {w : World} {K : Act → World → Prop} {Q Q' : Exit → Act → World → Prop} (h : ∀ e a w, e ≠ .normal → Q' e a w → Q e a w) (hh : o.wp P a w K Q') : o.wp P a w K Q := by
  have hl : LetsOut Q' → LetsOut Q := fun ⟨a, w, hq⟩ => ⟨a, w, h _ a w (by simp) hq⟩
  unfold Oper.wp at *
  generalize (execOp a.eval o).run P w = r at *
  cases r with
  | ok n w' =>
    cases n <;> simp only [Oper.upon] at hh ⊢ <;>
      first
        | exact hh
        | exact Calls.mono hh (fun e w'' he => by cases e <;> first | exact he | exact h _ _ _ (by simp) he | exact hl he)
  | halt x w' => cases x <;> simp only [Oper.upon] at hh ⊢ <;> first | exact hh | exact h _ _ _ (by simp) hh
theorem wpOp_exits {P : Program} {ops : Array Oper} {i : Nat} {a : Act} {w : World} {K : Act → World → Prop} {Q Q' : Exit → Act → World → Prop} (h : ∀ e a w, e ≠ .normal → Q' e a w → Q e a w) (hh : wpOp P ops Q' i K a w) : wpOp P ops Q i K a w := by
  unfold wpOp at *
  split
  · rename_i ho; rw [ho] at hh; exact hh
  · rename_i o ho
    rw [ho] at hh
    simp only at hh
    split
    · rename_i hw
      rw [if_pos hw] at hh
      rcases hh with hh | ⟨h1, a, w, h2⟩
      · exact .inl (wp_exits h hh)
      · exact .inr ⟨h1, a, w, h _ a w (by simp) h2⟩
    · rename_i hw; rw [if_neg hw] at hh; exact hh
/-- So many are done, in the order of the text. -/
def doneTo (n k : Nat) : Array Bool := (List.replicate k true ++ List.replicate (n - k) false).toArray
theorem doneTo_getD {n k j : Nat} (hk : k ≤ n) (d : Bool) : (doneTo n k).getD j d = if j < k then true else if j < n then false else d := by
  simp only [doneTo, Array.getD_eq_getD_getElem?, List.getElem?_toArray]
  by_cases h1 : j < k
  · rw [List.getElem?_append_left (by simpa using h1)]; simp [h1]
  · rw [List.getElem?_append_right (by simpa using h1), if_neg h1]
    by_cases h2 : j < n
    · simp [h2]; rw [List.getElem?_replicate, if_pos (by omega)]; rfl
    · rw [if_neg h2]; simp; rw [List.getElem?_replicate, if_neg (by omega)]; rfl
theorem doneTo_set {n k : Nat} (hk : k < n) : (doneTo n k).setIfInBounds k true = doneTo n (k + 1) := by
  apply Array.ext'
  simp only [doneTo, Array.toList_setIfInBounds]
  apply List.ext_getElem?
  intro j
  rw [List.getElem?_set]
  by_cases h : k = j
  · subst h
    rw [if_pos rfl, if_pos (by simp; omega), List.getElem?_append_left (by simp), List.getElem?_replicate, if_pos (by omega)]
  · rw [if_neg h]
    by_cases h1 : j < k
    · rw [List.getElem?_append_left (by simpa using h1), List.getElem?_append_left (by simp; omega), List.getElem?_replicate, List.getElem?_replicate, if_pos h1, if_pos (by omega)]
    · rw [List.getElem?_append_right (by simp; omega), List.getElem?_append_right (by simp; omega), List.getElem?_replicate, List.getElem?_replicate]
      simp only [List.length_replicate]
      by_cases h2 : j < n
      · rw [if_pos (by omega), if_pos (by omega)]
      · rw [if_neg (by omega), if_neg (by omega)]
theorem bar_waits {ops : Array Oper} {befs bars : List Nat} (D : DrawOk ops befs bars) (hlen : befs.length = ops.size) {i j : Nat} (hi : i < ops.size) (hb : memN bars i = true) (hj : j < i) {listed : Array Bool} (hoff : listed.getD j false = false)
    (closed : ∀ k l, listed.getD k false = true → (befs.getD k 0).testBit l = true → listed.getD l false = true) : i ∉ Region.ready .any ops listed := by
  intro hr
  obtain ⟨_, o, ho, hall⟩ := mem_ready.1 hr
  have hbar := (barrier_out (D.bars i hb)).1
  have hbit : (befs.getD i 0).testBit j = true := by rw [hbar, Nat.testBit_two_pow_sub_one]; simpa using hj
  obtain ⟨e, he, h⟩ := D.via i o ho j hbit
  have hon := hall e (mem_aft.1 he).1 (mem_aft.1 he).2
  rcases h with rfl | h
  · rw [hoff] at hon; cases hon
  · have := closed _ _ hon h
    rw [hoff] at this; cases this
theorem ready_first {ops : Array Oper} {befs bars : List Nat} (D : DrawOk ops befs bars) {j : Nat} {listed : Array Bool} (hj : j < ops.size) (hoff : listed.getD j true = false) (hall : ∀ i, i < j → listed.getD i false = true) : j ∈ Region.ready .any ops listed :=
  mem_ready.2 ⟨hoff, ops[j], by simp [hj], fun e he hb => hall _ (D.lt j ops[j] (by simp [hj]) e (mem_aft.2 ⟨he, hb⟩))⟩
theorem wp_tail {P : Program} {ops : Array Oper} {befs bars : List Nat} (D : DrawOk ops befs bars) (hlen : befs.length = ops.size) {Q : Exit → Act → World → Prop} : ∀ (d k : Nat), k + d = ops.size → (∀ i, k ≤ i → i < ops.size → memN bars i = true) → ∀ (a : Act) (w : World),
    wpList P ops Q (ops.toList.drop k) a w → wpAny P .any ops Q d (doneTo ops.size k) a w
  | 0, k, hk, _, a, w, h => by
    have hnil : ops.toList.drop k = [] := List.drop_eq_nil_of_le (by simp; omega)
    rw [hnil] at h
    refine ⟨?_, h⟩
    cases hr : Region.ready .any ops (doneTo ops.size k) with
    | nil => rfl
    | cons i r =>
      exfalso
      obtain ⟨h1, o, ho, _⟩ := mem_ready.1 (show i ∈ Region.ready .any ops (doneTo ops.size k) by rw [hr]; simp)
      have hi := (Array.getElem?_eq_some_iff.1 ho).1
      rw [doneTo_getD (by omega), if_pos (by omega)] at h1
      cases h1
  | d + 1, k, hk, hb, a, w, h => by
    have hkn : k < ops.size := by omega
    have hrk : k ∈ Region.ready .any ops (doneTo ops.size k) := ready_first D hkn (by rw [doneTo_getD (by omega)]; simp [hkn]) (fun i hi => by rw [doneTo_getD (by omega), if_pos hi])
    refine ⟨fun hr => absurd hrk (by rw [hr]; simp), fun i hi => ?_⟩
    obtain ⟨h1, o, ho, _⟩ := mem_ready.1 hi
    have hin := (Array.getElem?_eq_some_iff.1 ho).1
    have hik : i = k := by
      rcases Nat.lt_trichotomy i k with hlt | rfl | hgt
      · rw [doneTo_getD (by omega), if_pos hlt] at h1; cases h1
      · rfl
      · exfalso
        refine bar_waits D hlen hin (hb i (by omega) hin) hgt (by rw [doneTo_getD (by omega)]; simp) (fun k' l h2 h3 => ?_) hi
        rw [doneTo_getD (by omega)] at h2 ⊢
        by_cases hk' : k' < k
        · have := D.bef_lt k' ops[k'] (by simp [show k' < ops.size by omega]) l h3
          rw [if_pos (by omega)]
        · rw [if_neg hk'] at h2
          split at h2 <;> cases h2
    subst hik
    have hd : ops.toList.drop i = o :: ops.toList.drop (i + 1) := by
      have hl : i < ops.toList.length := by simpa using hin
      rw [List.drop_eq_getElem_cons hl]
      congr 1
      have := (Array.getElem?_eq_some_iff.1 ho).2
      simpa using this
    rw [hd] at h
    rw [doneTo_set hkn]
    have step : ∀ a w, wpList P ops Q (ops.toList.drop (i + 1)) a w → wpAny P .any ops Q d (doneTo ops.size (i + 1)) a w := fun a w h => wp_tail D hlen d (i + 1) (by omega) (fun j h1 h2 => hb j (by omega) h2) a w h
    unfold wpList at h
    unfold wpOp
    simp only [ho]
    split at h
    · rename_i hw
      rw [if_pos hw]
      rcases h with h | h
      · exact .inl (Oper.wp_mono step h)
      · exact .inr h
    · rename_i hw
      rw [if_neg hw]
      exact step _ _ h
/-- Those ahead, then the last ones. -/
theorem wp_split {P : Program} {ops : Array Oper} {befs bars : List Nat} (D : DrawOk ops befs bars) (hlen : befs.length = ops.size) {n : Nat} (hn : n ≤ ops.size) (hb : ∀ i, n ≤ i → i < ops.size → memN bars i = true) {Q Q' : Exit → Act → World → Prop}
    (hN : ∀ a w, Q' .normal a w → wpList P ops Q (ops.toList.drop n) a w) (hE : ∀ e a w, e ≠ .normal → Q' e a w → Q e a w) : ∀ (fuel : Nat) (l1 : List Bool) (a : Act) (w : World), l1.length = n → l1.count false = fuel →
    (∀ k l, (l1.toArray).getD k false = true → (befs.getD k 0).testBit l = true → (l1.toArray).getD l false = true) →
    wpAny P .any (preOps ops n) Q' fuel l1.toArray a w → wpAny P .any ops Q (fuel + (ops.size - n)) (l1 ++ List.replicate (ops.size - n) false).toArray a w := by
  have pre : ∀ i, i < n → (preOps ops n)[i]? = ops[i]? := fun i hi => by simp [preOps, List.getElem?_take_of_lt hi]
  have preN : ∀ i, n ≤ i → (preOps ops n)[i]? = none := fun i hi => by simp [preOps]; omega
  intro fuel
  induction fuel with
  | zero =>
    intro l1 a w hl hc hcl h
    have hall : l1 = List.replicate n true := by
      rw [List.eq_replicate_iff]
      refine ⟨hl, fun b hb => ?_⟩
      cases b with
      | true => rfl
      | false => exact absurd (List.count_pos_iff.2 hb) (by omega)
    subst hall
    rw [Nat.zero_add]
    exact wp_tail D hlen (ops.size - n) n (by omega) hb a w (hN a w h.2)
  | succ fuel ih =>
    intro l1 a w hl hc hcl h
    have g1 : ∀ j d, j < n → ((l1 ++ List.replicate (ops.size - n) false).toArray).getD j d = (l1.toArray).getD j d := fun j d hj => by
      simp only [Array.getD_eq_getD_getElem?, List.getElem?_toArray]
      rw [List.getElem?_append_left (by omega)]
    have g2 : ∀ j d, n ≤ j → j < ops.size → ((l1 ++ List.replicate (ops.size - n) false).toArray).getD j d = false := fun j d hj hj2 => by
      simp only [Array.getD_eq_getD_getElem?, List.getElem?_toArray]
      rw [List.getElem?_append_right (by omega), List.getElem?_replicate, if_pos (by omega)]; rfl
    have gcl : ∀ k l, ((l1 ++ List.replicate (ops.size - n) false).toArray).getD k false = true → (befs.getD k 0).testBit l = true → ((l1 ++ List.replicate (ops.size - n) false).toArray).getD l false = true := fun k l h1 h2 => by
      by_cases hk : k < n
      · have hlk := D.bef_lt k ops[k] (by simp [show k < ops.size by omega]) l h2
        rw [g1 _ _ hk] at h1
        rw [g1 _ _ (by omega)]
        exact hcl k l h1 h2
      · exfalso
        by_cases hk2 : k < ops.size
        · rw [g2 _ _ (by omega) hk2] at h1; cases h1
        · rw [Array.getD_eq_getD_getElem?, Array.getElem?_eq_none (by simp; omega)] at h1; cases h1
    -- one that is not done
    obtain ⟨j0, hj0, hoff0, hmin⟩ : ∃ j : Nat, j < n ∧ l1[j]? = some false ∧ ∀ i : Nat, i < j → l1[i]? = some true := by
      have : ∀ (l : List Bool), 0 < l.count false → ∃ j : Nat, l[j]? = some false ∧ ∀ i : Nat, i < j → l[i]? = some true := by
        intro l
        induction l with
        | nil => intro h; simp at h
        | cons b r ihr =>
          intro h
          cases b with
          | false => exact ⟨0, rfl, fun i hi => by omega⟩
          | true =>
            obtain ⟨j, h1, h2⟩ := ihr (by simpa using h)
            refine ⟨j + 1, by simpa using h1, fun i hi => ?_⟩
            cases i with
            | zero => rfl
            | succ i => simpa using h2 i (by omega)
      obtain ⟨j, h1, h2⟩ := this l1 (by omega)
      exact ⟨j, by rw [← hl]; exact (List.getElem?_eq_some_iff.1 h1).1, h1, h2⟩
    have hr0 : j0 ∈ Region.ready .any ops (l1 ++ List.replicate (ops.size - n) false).toArray := ready_first D (by omega) (by rw [g1 _ _ hj0]; simp [Array.getD_eq_getD_getElem?, hoff0]) (fun i hi => by rw [g1 _ _ (by omega)]; simp [Array.getD_eq_getD_getElem?, hmin i hi])
    rw [show fuel + 1 + (ops.size - n) = (fuel + (ops.size - n)) + 1 by omega]
    refine ⟨fun hr => absurd hr0 (by rw [hr]; simp), fun i hi => ?_⟩
    obtain ⟨h1, o, ho, hall⟩ := mem_ready.1 hi
    have hio := (Array.getElem?_eq_some_iff.1 ho).1
    have hin : i < n := by
      rcases Nat.lt_or_ge i n with hlt | hge
      · exact hlt
      · exact absurd hi (bar_waits D hlen (j := j0) hio (hb i hge hio) (by omega) (by rw [g1 _ _ hj0]; simp [Array.getD_eq_getD_getElem?, hoff0]) gcl)
    have hri : i ∈ Region.ready .any (preOps ops n) l1.toArray := by
      refine mem_ready.2 ⟨by rw [← g1 _ _ hin]; exact h1, o, by rw [pre i hin]; exact ho, fun e he hbd => ?_⟩
      have hlt := D.lt i o ho e (mem_aft.2 ⟨he, hbd⟩)
      have := hall e he hbd
      rwa [g1 _ _ (by omega)] at this
    have hw := h.2 i hri
    have hsz : i < l1.length := by omega
    have hoffi : l1[i]? = some false := by
      rw [g1 _ _ hin] at h1
      rw [Array.getD_eq_getD_getElem?, List.getElem?_toArray, List.getElem?_eq_getElem hsz] at h1
      rw [List.getElem?_eq_getElem hsz]
      simpa using h1
    have hset : ((l1 ++ List.replicate (ops.size - n) false).toArray).setIfInBounds i true = (l1.set i true ++ List.replicate (ops.size - n) false).toArray := by
      apply Array.ext'
      simp only [Array.toList_setIfInBounds]
      rw [List.set_append_left _ _ hsz]
    have hset2 : (l1.toArray).setIfInBounds i true = (l1.set i true).toArray := by simp
    rw [hset]
    rw [hset2] at hw
    have next : ∀ a w, wpAny P .any (preOps ops n) Q' fuel (l1.set i true).toArray a w → wpAny P .any ops Q (fuel + (ops.size - n)) (l1.set i true ++ List.replicate (ops.size - n) false).toArray a w := fun a w h2 => by
      refine ih (l1.set i true) a w (by simpa using hl) (by have := count_set l1 i hoffi; omega) (fun k l hk hkl => ?_) h2
      have gs : ∀ q, ((l1.set i true).toArray).getD q false = if q = i then true else (l1.toArray).getD q false := fun q => by
        simp only [Array.getD_eq_getD_getElem?, List.getElem?_toArray]
        rw [List.getElem?_set]
        by_cases hq : i = q
        · subst hq; simp [hsz]
        · rw [if_neg hq, if_neg (Ne.symm hq)]
      rw [gs] at hk ⊢
      by_cases hli : l = i
      · rw [if_pos hli]
      · rw [if_neg hli]
        by_cases hki : k = i
        · subst hki
          obtain ⟨e, he, hh⟩ := D.via k o ho l hkl
          have hlt := D.lt k o ho e he
          have hon := hall e (mem_aft.1 he).1 (mem_aft.1 he).2
          rw [g1 _ _ (by omega)] at hon
          rcases hh with hh | hh
          · rw [← hh]; exact hon
          · exact hcl _ _ hon hh
        · rw [if_neg hki] at hk
          exact hcl k l hk hkl
    have hw2 := wpOp_exits hE hw
    unfold wpOp at hw2 ⊢
    rw [pre i hin, ho] at hw2
    simp only [ho] at hw2 ⊢
    have hy : Region.wanted o (yielded (preOps ops n) a.tmps) = Region.wanted o (yielded ops a.tmps) := by
      unfold Region.wanted
      cases hg : o.guard with
      | none => rfl
      | some p =>
        obtain ⟨j, want⟩ := p
        simp only
        have hjn : j < n := by
          rcases Nat.lt_or_ge j n with hlt | hge
          · exact hlt
          · exfalso
            have := D.bef_lt i o ho j (D.guard i o j want ho hg)
            omega
        unfold yielded
        rw [pre j hjn]
    rw [hy] at hw2
    split at hw2
    · rename_i hwt
      rw [if_pos hwt]
      rcases hw2 with hw2 | hw2
      · exact .inl (Oper.wp_mono next hw2)
      · exact .inr hw2
    · rename_i hwt
      rw [if_neg hwt]
      exact next _ _ hw2
theorem tailN_bars (bars : List Nat) : ∀ (n i : Nat), tailN bars n ≤ i → i < n → memN bars i = true
  | 0, i, _, h => by omega
  | n + 1, i, h, hi => by
    unfold tailN at h
    split at h
    · rename_i hb
      rcases Nat.lt_or_ge i n with hlt | hge
      · exact tailN_bars bars n i h hlt
      · rw [show i = n by omega]; exact hb
    · omega
theorem tailN_le (bars : List Nat) : ∀ n, tailN bars n ≤ n
  | 0 => Nat.le_refl _
  | n + 1 => by
    unfold tailN
    split
    · have := tailN_le bars n; omega
    · exact Nat.le_refl _
theorem vdraw_sound (hT : TabOk C.P T) (hS : SpecsOk C.P S) (hmix : C.P.follows .mixedOrders = true) {id : Nat} {ops : Array Oper} (hok : ∀ o ∈ ops.toList, dstOk N o = true) {m : Nat} {befs bars : List Nat} (hd2 : drawOk2 ops befs bars = true) {env : Env} {K : Env → Heap → Prop} {a : Act}
    (hs : vdraw T S (preOps ops (tailN bars ops.size)) (befs.take (tailN bars ops.size)) (belowL (tailN bars ops.size) bars) m 0 0 (preOps ops (tailN bars ops.size)).toList env h fun env h => forceN (m + 8 * tailN bars ops.size) fun m' => vops T S ops m' (ops.toList.drop (tailN bars ops.size)) env h K)
    (r : RelS C N m env h a w g) {Q : Exit → Act → World → Prop} (hK : ∀ m env h a w g, K env h → RelS C N m env h a w g → Q .normal a w) :
    (Code.region id ops true).wp C.P Q a w := by
  simp only [drawOk2, Bool.and_eq_true] at hd2
  obtain ⟨hd, hp⟩ := hd2
  have hle := tailN_le bars ops.size
  have hbt := tailN_bars bars ops.size
  revert hs hp hbt hle
  generalize tailN bars ops.size = n
  intro hs hp hle hbt
  simp only [drawOkP, Bool.and_eq_true, decide_eq_true_eq] at hd
  obtain ⟨hd, rfl, hbs⟩ := hd
  have D := drawOk_out (bars := bars) hd (fun b hb => List.all_eq_true.1 hbs b ((memN_iff bars b).1 hb))
  have hlen : (befores ops.toList []).length = ops.size := by
    obtain ⟨l, h1, h2⟩ := befores_app ops.toList []
    rw [h1]; simp [h2]
  have hps : (preOps ops n).size = n := by simp [preOps]; omega
  have hmem : ∀ o ∈ (preOps ops n).toList, o ∈ ops.toList := fun o ho => by
    simp only [preOps] at ho
    exact List.mem_of_mem_take ho
  have hA := vdraw_any (C := C) (N := N) (w := w) (g := g) hT hS (fun o ho => hok o (hmem o ho)) hp hs r (Q := fun e a w => match e with | .normal => wpList C.P ops Q (ops.toList.drop n) a w | e => Q e a w) (fun env h a w g hk r => by
    dsimp only at hk ⊢
    rw [forceN_eq] at hk
    rw [hps] at r
    exact vops_sound hT hS hK (ops.toList.drop n) (m + 8 * n) env h a w g (fun o ho => hok o (List.mem_of_mem_drop ho)) hk r)
  refine wp_region_any hmix ?_
  have hfin := wp_split (P := C.P) D hlen hle hbt (Q := Q) (Q' := fun e a w => match e with | .normal => wpList C.P ops Q (ops.toList.drop n) a w | e => Q e a w) (fun a w h => h) (fun e a w he h => by cases e <;> first | exact absurd rfl he | exact h) n (List.replicate n false) a { w with drawn := w.drawn + 1 } (by simp) (by simp) (fun k l h _ => by
      exfalso
      rw [Array.getD_eq_getD_getElem?, List.getElem?_toArray, List.getElem?_replicate] at h
      split at h <;> cases h) (by rw [hps] at hA; simpa using hA)
  have e1 : n + (ops.size - n) = ops.size := by omega
  rw [e1] at hfin
  have e2 : (List.replicate n false ++ List.replicate (ops.size - n) false).toArray = Array.replicate ops.size false := by
    apply Array.ext'
    simp [e1]
  rw [e2] at hfin
  exact hfin
end
end Go.Eng
