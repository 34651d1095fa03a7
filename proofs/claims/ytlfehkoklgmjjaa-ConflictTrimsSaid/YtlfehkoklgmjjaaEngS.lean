import Derived.Test.YtlfehkoklgmjjaaEngR
/- Loops by what turns in them; tables of specifications; small laws for the walks. -/
set_option linter.unusedVariables false
set_option linter.unusedSimpArgs false
namespace Go.Eng

def updEnv (ch : List (Nat × V)) : Env → Env
  | [] => []
  | (k, v) :: r => match lookN ch k with
    | some u => (k, u) :: updEnv ch r
    | none => (k, v) :: updEnv ch r
def updHeap (ob : List (Nat × Obj)) : Heap → Heap
  | [] => []
  | (k, v) :: r => match lookN ob k with
    | some u => (k, u) :: updHeap ob r
    | none => (k, v) :: updHeap ob r
def updS (st : St) (ch : List (Nat × V)) (ob : List (Nat × Obj)) : St := ⟨updEnv ch st.env, updHeap ob st.heap⟩
theorem LoopVC.on {pins : Pins} {round : St → (Ex → St → Prop) → Prop} {st : St} {K : Ex → St → Prop} {α : Type} (ch : α → List (Nat × V)) (ob : α → List (Nat × Obj)) (inv : α → Prop) (μ : α → Nat) (a0 : α) (h1 : st = updS st (ch a0) (ob a0)) (h2 : inv a0)
    (h3 : ∀ a, inv a → Ev (forceE (updEnv (ch a) st.env) fun env => forceH (updHeap (ob a) st.heap) fun hp => round ⟨env, hp⟩ (fun e s => match e with
      | .normal => Leaf (∃ a', s = updS st (ch a') (ob a') ∧ inv a' ∧ μ a' < μ a)
      | .exit id => K (.exit id) s
      | .ret => K .ret s
      | .goto l => K (.goto l) s))) : LoopVC pins round st K := by
  refine LoopVC.mk (fun a => updS st (ch a) (ob a)) inv μ a0 h1 h2 fun a ha => Ev.mk ?_
  have := (h3 a ha).out
  rw [forceE_eq, forceH_eq] at this
  exact this

theorem closeK_out2 {h : Heap} {k : List Nat → Prop} : ∀ (n : Nat) (l : List Nat), closeK h n l k → ∃ ord, k ord ∧ ∀ k' : List Nat → Prop, k' ord → closeK h n l k'
  | 0, l, hc => ⟨l, hc, fun _ h => h⟩
  | n + 1, l, hc => by
    simp only [closeK] at hc ⊢
    rw [forceNs_eq] at hc
    simp only [forceNs_eq]
    split at hc
    · rename_i hb; exact ⟨l, hc, fun _ h => by simpa only [hb] using h⟩
    · rename_i hb
      obtain ⟨ord, h1, h2⟩ := closeK_out2 n _ hc
      exact ⟨ord, h1, fun k' h => by simpa only [hb] using h2 k' h⟩
theorem normK_out {pins : Pins} {keep : List Nat} {env : Env} {h : Heap} {K : St → Prop} (hs : normK pins keep env h K) : ∃ st, K st ∧ ∀ K' : St → Prop, K' st → normK pins keep env h K' := by
  unfold normK at hs ⊢
  simp only [forceE_eq, forceNs_eq] at hs ⊢
  obtain ⟨ord, h1, h2⟩ := closeK_out2 _ _ hs
  split at h1
  · rename_i hb
    simp only [forcePs_eq, forceE_eq, forceH_eq] at h1 ⊢
    exact ⟨_, h1, fun K' hk => h2 _ (by rw [hb]; exact hk)⟩
  · exact h1.elim
theorem weakK_out {pins : Pins} {l : List (WP × WK)} {st : St} {K : St → Prop} (hs : weakK pins l st K) : ∃ st1, K st1 ∧ ∀ K' : St → Prop, K' st1 → weakK pins l st K' := by
  unfold weakK at hs ⊢
  split at hs
  · exact normK_out hs
  · exact hs.elim
/-- The same, the state told less first. -/
theorem LoopVC.weak {pins : Pins} {round : St → (Ex → St → Prop) → Prop} {st : St} {K : Ex → St → Prop} {α : Type} (l : List (WP × WK)) (ch : α → List (Nat × V)) (ob : α → List (Nat × Obj)) (inv : α → Prop) (μ : α → Nat) (a0 : α)
    (h : Ev (weakK pins l st fun st1 => Leaf (st1 = updS st1 (ch a0) (ob a0)) ∧ Leaf (inv a0) ∧ ∀ a, inv a → Ev (forceE (updEnv (ch a) st1.env) fun env => forceH (updHeap (ob a) st1.heap) fun hp => round ⟨env, hp⟩ (fun e s => match e with
      | .normal => Leaf (∃ a', s = updS st1 (ch a') (ob a') ∧ inv a' ∧ μ a' < μ a)
      | .exit id => K (.exit id) s
      | .ret => K .ret s
      | .goto l => K (.goto l) s)))) : LoopVC pins round st K := by
  obtain ⟨st1, ⟨h1, h2, h3⟩, h4⟩ := weakK_out h.out
  unfold LoopVC
  refine ⟨α, fun a => updS st1 (ch a) (ob a), inv, μ, a0, .inr ⟨l, h4 _ h1.out⟩, h2.out, fun a ha => ?_⟩
  have := (h3 a ha).out
  rw [forceE_eq, forceH_eq] at this
  exact this

/-! ## Tables of specifications -/
def spOf (l : List (Nat × Spec)) : Specs := fun f => lookN l f
def lsOf (l : List (Nat × LSpec)) : LSpecs := fun f => lookN l f
def LsOk (P : Program) (f : FuncId) (s : LSpec) : Prop := PSound P f s.p ∧ FnOk P f
theorem spNil {P : Program} : SpecsOk P (spOf []) := fun f s h => by simp [spOf, lookN] at h
theorem spCons {P : Program} {f : FuncId} {s : Spec} {l : List (Nat × Spec)} (h : SpOk P f s) (hl : SpecsOk P (spOf l)) : SpecsOk P (spOf ((f, s) :: l)) := fun g t hg => by
  simp only [spOf, lookN] at hg
  cases hb : Nat.beq f g
  · rw [hb] at hg; exact hl g t hg
  · rw [hb] at hg
    obtain rfl := Nat.eq_of_beq_eq_true hb
    simp at hg; subst hg; exact h
theorem lsNil {P : Program} : LSpecsOk P (lsOf []) := fun f s h => by simp [lsOf, lookN] at h
theorem lsCons {P : Program} {f : FuncId} {s : LSpec} {l : List (Nat × LSpec)} (h : LsOk P f s) (hl : LSpecsOk P (lsOf l)) : LSpecsOk P (lsOf ((f, s) :: l)) := fun g t hg => by
  simp only [lsOf, lookN] at hg
  cases hb : Nat.beq f g
  · rw [hb] at hg; exact hl g t hg
  · rw [hb] at hg
    obtain rfl := Nat.eq_of_beq_eq_true hb
    simp at hg; subst hg; exact h
theorem pOk {P : Program} {f : FuncId} {s : PSpec} (hp : PSound P f s) (hf : FnOk P f) (h8 : rsN s.res ≤ 8) {L : LSpecs} (hL : LSpecsOk P L) : SpOk P f (s.spec L) := .inl ⟨PSpec.ok hL hp h8, hf⟩

/-! ## Small laws -/
theorem wrap64 {n : Int} (h : -9223372036854775808 ≤ n ∧ n ≤ 9223372036854775807) : IntKind.i64.wrap n = n := by
  rw [IntKind.wrap_i64]; omega
theorem len63 {n : Nat} (h : n ≤ maxLen) : n ≤ 9223372036854775807 := h
theorem bd64 {n : Int} (h : IntKind.i64.min ≤ n ∧ n ≤ IntKind.i64.max) : -9223372036854775808 ≤ n ∧ n ≤ 9223372036854775807 := by
  simpa [IntKind.min, IntKind.max, IntKind.signed, IntKind.bits] using h
theorem bdu64 {n : Int} (h : IntKind.u64.min ≤ n ∧ n ≤ IntKind.u64.max) : 0 ≤ n ∧ n ≤ 18446744073709551615 := by
  simpa [IntKind.min, IntKind.max, IntKind.signed, IntKind.bits] using h
theorem bdu8 {n : Int} (h : IntKind.u8.min ≤ n ∧ n ≤ IntKind.u8.max) : 0 ≤ n ∧ n ≤ 255 := by
  simpa [IntKind.min, IntKind.max, IntKind.signed, IntKind.bits] using h
theorem bdu32 {n : Int} (h : IntKind.u32.min ≤ n ∧ n ≤ IntKind.u32.max) : 0 ≤ n ∧ n ≤ 4294967295 := by
  simpa [IntKind.min, IntKind.max, IntKind.signed, IntKind.bits] using h
theorem good_int (k : IntKind) (n : Int) : Good (.int k) n ↔ inK k n = true := (inK_iff k n).symm
theorem good_at {e : Ty} {xs : List e.den} (h : ∀ x ∈ xs, Good e x) {i : Nat} (hi : i < xs.length) (d : e.den) : Good e (xs.getD i d) := by
  rw [List.getD_eq_getElem?_getD, List.getElem?_eq_getElem hi]; exact h _ (List.getElem_mem hi)
theorem drop_at {α : Type} {xs : List α} {i : Nat} (d : α) (h : i < xs.length) : xs.drop i = xs.getD i d :: xs.drop (i + 1) := by
  rw [List.drop_eq_getElem_cons h]; simp [List.getD, h]
theorem drop_end {α : Type} {xs : List α} {i : Nat} (h : xs.length ≤ i) : xs.drop i = [] := List.drop_eq_nil_of_le h
theorem take_at {α : Type} {xs : List α} {i : Nat} (d : α) (h : i < xs.length) : xs.take (i + 1) = xs.take i ++ [xs.getD i d] := by
  rw [List.take_succ_eq_append_getElem h]; simp [List.getD, h]
theorem ret1 {α : Type} {a b : α} (h : a = b) : (some ((a, ()), ()) : Option ((α × Unit) × Unit)) = some ((b, ()), ()) := by rw [h]
end Go.Eng
namespace Go.Eng
theorem leafDraw {a : Array Oper} {b c : List Nat} (h : drawOk2 a b c = true) : Leaf (drawOk2 a b c = true) := Leaf.mk h
end Go.Eng
/-! ## Lists, from a place on, up to a place -/
namespace Go.Eng
section
variable {α β : Type} {xs : List α} {i : Nat}
theorem any_end {p : α → Bool} (h : xs.length ≤ i) : (xs.drop i).any p = false := by rw [drop_end h]; rfl
theorem any_hit {p : α → Bool} (d : α) (h : i < xs.length) (hp : p (xs.getD i d) = true) : (xs.drop i).any p = true := by rw [drop_at d h, List.any_cons, hp]; rfl
theorem any_skip {p : α → Bool} (d : α) (h : i < xs.length) (hp : p (xs.getD i d) = false) : (xs.drop i).any p = (xs.drop (i + 1)).any p := by rw [drop_at d h, List.any_cons, hp]; rfl
theorem all_end {p : α → Bool} (h : xs.length ≤ i) : (xs.drop i).all p = true := by rw [drop_end h]; rfl
theorem all_hit {p : α → Bool} (d : α) (h : i < xs.length) (hp : p (xs.getD i d) = false) : (xs.drop i).all p = false := by rw [drop_at d h, List.all_cons, hp]; rfl
theorem all_skip {p : α → Bool} (d : α) (h : i < xs.length) (hp : p (xs.getD i d) = true) : (xs.drop i).all p = (xs.drop (i + 1)).all p := by rw [drop_at d h, List.all_cons, hp]; rfl
theorem take_all {l : List α} {n : Nat} (h : l.length ≤ n) : l.take n = l := List.take_of_length_le h
theorem filter_at {p : α → Bool} (d : α) (h : i < xs.length) : (xs.take (i + 1)).filter p = (xs.take i).filter p ++ (if p (xs.getD i d) then [xs.getD i d] else []) := by
  rw [take_at d h, List.filter_append]; congr 1; simp [List.filter_cons]
theorem filterMap_at {f : α → Option β} (d : α) (h : i < xs.length) : (xs.take (i + 1)).filterMap f = (xs.take i).filterMap f ++ (f (xs.getD i d)).toList := by
  rw [take_at d h, List.filterMap_append]
  generalize xs.getD i d = y
  cases hf : f y <;> simp [List.filterMap_cons, hf]
theorem flatMap_at {f : α → List β} (d : α) (h : i < xs.length) : (xs.take (i + 1)).flatMap f = (xs.take i).flatMap f ++ f (xs.getD i d) := by
  rw [take_at d h, List.flatMap_append]; simp
theorem map_at {f : α → β} (d : α) (h : i < xs.length) : (xs.take (i + 1)).map f = (xs.take i).map f ++ [f (xs.getD i d)] := by
  rw [take_at d h, List.map_append]; simp
theorem foldl_at {f : β → α → β} {b : β} (d : α) (h : i < xs.length) : (xs.take (i + 1)).foldl f b = f ((xs.take i).foldl f b) (xs.getD i d) := by
  rw [take_at d h, List.foldl_append]; rfl
theorem countP_at {p : α → Bool} (d : α) (h : i < xs.length) : (xs.take (i + 1)).countP p = (xs.take i).countP p + (if p (xs.getD i d) then 1 else 0) := by
  rw [take_at d h, List.countP_append]; simp [List.countP_cons]
theorem countP_take_le {p : α → Bool} : (xs.take i).countP p ≤ i := Nat.le_trans List.countP_le_length (by simp; omega)
theorem length_filterMap_take {f : α → Option β} : ((xs.take i).filterMap f).length ≤ i := Nat.le_trans (List.length_filterMap_le _ _) (by simp; omega)
theorem length_filter_take {p : α → Bool} : ((xs.take i).filter p).length ≤ i := Nat.le_trans (List.length_filter_le _ _) (by simp; omega)
end
end Go.Eng
namespace Go.Eng
theorem ret2 {α β : Type} {a c : α} {b d : β} (h : a = c) (k : b = d) : (some ((a, ()), (b, ()), ()) : Option ((α × Unit) × (β × Unit) × Unit)) = some ((c, ()), (d, ()), ()) := by rw [h, k]
theorem ret3 {α β γ : Type} {a c : α} {b d : β} {e f : γ} (h : a = c) (k : b = d) (m : e = f) : (some ((a, ()), (b, ()), (e, ()), ()) : Option ((α × Unit) × (β × Unit) × (γ × Unit) × Unit)) = some ((c, ()), (d, ()), (f, ()), ()) := by rw [h, k, m]
end Go.Eng
namespace Go.Eng
section
variable {α β γ δ : Type} [BEq α] [LawfulBEq α] [BEq β] [LawfulBEq β] [BEq γ] [LawfulBEq γ] [BEq δ] [LawfulBEq δ]
theorem eq2 {x y : α × β} : (x.1 == y.1 && x.2 == y.2) = true ↔ x = y := by
  obtain ⟨a, b⟩ := x; obtain ⟨c, d⟩ := y
  simp
theorem eq3 {x y : α × β × γ} : (x.1 == y.1 && (x.2.1 == y.2.1 && x.2.2 == y.2.2)) = true ↔ x = y := by
  obtain ⟨a, b, e⟩ := x; obtain ⟨c, d, f⟩ := y
  simp
theorem eq4 {x y : α × β × γ × δ} : (x.1 == y.1 && (x.2.1 == y.2.1 && (x.2.2.1 == y.2.2.1 && x.2.2.2 == y.2.2.2))) = true ↔ x = y := by
  obtain ⟨a, b, e, g⟩ := x; obtain ⟨c, d, f, k⟩ := y
  simp
theorem ne2 {x y : α × β} : (x.1 == y.1 && x.2 == y.2) = false ↔ ¬ x = y := by rw [← eq2, Bool.not_eq_true]
theorem ne3 {x y : α × β × γ} : (x.1 == y.1 && (x.2.1 == y.2.1 && x.2.2 == y.2.2)) = false ↔ ¬ x = y := by rw [← eq3, Bool.not_eq_true]
theorem ne4 {x y : α × β × γ × δ} : (x.1 == y.1 && (x.2.1 == y.2.1 && (x.2.2.1 == y.2.2.1 && x.2.2.2 == y.2.2.2))) = false ↔ ¬ x = y := by rw [← eq4, Bool.not_eq_true]
end
theorem same_end {α : Type} {a b : List α} {i : Nat} (h1 : a.length = b.length) (h2 : a.take i = b.take i) (hi : a.length ≤ i) : a = b := by
  rw [take_all hi, take_all (by omega)] at h2; exact h2
theorem same_step {α : Type} {a b : List α} {i : Nat} (d : α) (h1 : a.length = b.length) (h2 : a.take i = b.take i) (hi : i < a.length) (h : a.getD i d = b.getD i d) : a.take (i + 1) = b.take (i + 1) := by
  rw [take_at d hi, take_at d (by omega), h2, h]
theorem same_not {α : Type} {a b : List α} {i : Nat} (d : α) (h : ¬ a.getD i d = b.getD i d) : ¬ a = b := fun hc => h (by rw [hc])
end Go.Eng
namespace Go.Eng
theorem eqSelf {α : Type} [BEq α] [ReflBEq α] {a : α} {P : Prop} (h : (a == a) = false) : P := absurd (h.symm.trans (beq_self_eq_true a)) Bool.false_ne_true
theorem decSelf {α : Type} [DecidableEq α] {a : α} {P : Prop} (h : decide (a = a) = false) : P := absurd rfl (of_decide_eq_false h)
theorem notTrue {P : Prop} (h : true = false) : P := absurd h.symm Bool.false_ne_true
end Go.Eng
