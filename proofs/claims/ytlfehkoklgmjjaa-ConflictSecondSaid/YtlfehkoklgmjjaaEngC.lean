import Derived.Test.YtlfehkoklgmjjaaEngB
/- What an abstract state says of a machine's state: the relation, and what keeps it. -/
set_option linter.unusedVariables false
set_option linter.unusedSimpArgs false
namespace Go.Eng
open Go.RowKit (Below)

/-! ## Data in memory -/
def rep (w : World) (F : Nat → Prop) : (t : Ty) → t.den → List Value → Prop
  | .bool, x, cs => cs = [.bool x]
  | .int k, n, cs => cs = [.int k n] ∧ k.min ≤ n ∧ n ≤ k.max
  | .str, l, cs => cs = [.string ⟨⟨l⟩⟩] ∧ l.length ≤ maxLen
  | .slice e, xs, cs => ∃ A cap, cs = [.slice A xs.length cap] ∧ xs.length ≤ cap ∧ cap ≤ maxLen ∧ (A = none → cap = 0) ∧
      ∀ i (h : i < xs.length), ∃ a ci, A = some a ∧ F a.block ∧ (∀ (j : Nat) (v : Value), ci[j]? = some v → w.cell? (a.add (i * e.cells + j)) = some v) ∧ rep w F e xs[i] ci
  | .pair a b, x, cs => ∃ c1 c2, cs = c1 ++ c2 ∧ rep w F a x.1 c1 ∧ rep w F b x.2 c2

theorem rep_len {w : World} {F : Nat → Prop} : ∀ (t : Ty) (x : t.den) (cs : List Value), rep w F t x cs → cs.length = t.cells
  | .bool, _, _, h => by simp only [rep] at h; subst h; rfl
  | .int _, _, _, h => by simp only [rep] at h; rw [h.1]; rfl
  | .str, _, _, h => by simp only [rep] at h; rw [h.1]; rfl
  | .slice _, _, _, h => by simp only [rep] at h; obtain ⟨_, _, h, _⟩ := h; rw [h]; rfl
  | .pair a b, x, cs, h => by
    simp only [rep] at h
    obtain ⟨c1, c2, rfl, h1, h2⟩ := h
    rw [List.length_append, rep_len a x.1 c1 h1, rep_len b x.2 c2 h2]; rfl

theorem rep_one {w : World} {F : Nat → Prop} : ∀ (t : Ty) (x : t.den) (cs : List Value), rep w F t x cs → ∀ v ∈ cs, v.oneCell' = true
  | .bool, _, _, h => by simp only [rep] at h; subst h; simp [Value.oneCell']
  | .int _, _, _, h => by simp only [rep] at h; rw [h.1]; simp [Value.oneCell']
  | .str, _, _, h => by simp only [rep] at h; rw [h.1]; simp [Value.oneCell']
  | .slice _, _, _, h => by simp only [rep] at h; obtain ⟨_, _, h, _⟩ := h; rw [h]; simp [Value.oneCell']
  | .pair a b, x, cs, h => by
    simp only [rep] at h
    obtain ⟨c1, c2, rfl, h1, h2⟩ := h
    intro v hv
    rcases List.mem_append.1 hv with hv | hv
    · exact rep_one a x.1 c1 h1 v hv
    · exact rep_one b x.2 c2 h2 v hv

theorem rep_mono {w w' : World} {F F' : Nat → Prop} (hF : ∀ b, F b → F' b ∧ w'.heap[b]? = w.heap[b]?) :
    ∀ (t : Ty) (x : t.den) (cs : List Value), rep w F t x cs → rep w' F' t x cs
  | .bool, _, _, h => by simp only [rep] at h ⊢; exact h
  | .int _, _, _, h => by simp only [rep] at h ⊢; exact h
  | .str, _, _, h => by simp only [rep] at h ⊢; exact h
  | .slice e, xs, cs, h => by
    simp only [rep] at h ⊢
    obtain ⟨A, cap, h1, h2, h3, h4, h5⟩ := h
    refine ⟨A, cap, h1, h2, h3, h4, fun i hi => ?_⟩
    obtain ⟨a, ci, ha, hf, hc, hr⟩ := h5 i hi
    refine ⟨a, ci, ha, (hF _ hf).1, fun j v hv => ?_, rep_mono hF e _ ci hr⟩
    rw [← hc j v hv]
    have hb : (a.add (i * e.cells + j)).block = a.block := by unfold Addr.add; split <;> rfl
    exact World.cell?_of_block (w := w) (by rw [hb]; exact (hF _ hf).2)
  | .pair a b, x, cs, h => by
    simp only [rep] at h ⊢
    obtain ⟨c1, c2, h0, h1, h2⟩ := h
    exact ⟨c1, c2, h0, rep_mono hF a _ c1 h1, rep_mono hF b _ c2 h2⟩

/-- Data without a slice in it lies in no block. -/
def Ty.flat : Ty → Bool
  | .slice _ => false
  | .pair a b => a.flat && b.flat
  | _ => true
theorem rep_flat {w w' : World} {F F' : Nat → Prop} : ∀ (t : Ty) (x : t.den) (cs : List Value), t.flat = true → rep w F t x cs → rep w' F' t x cs
  | .bool, _, _, _, h => by simp only [rep] at h ⊢; exact h
  | .int _, _, _, _, h => by simp only [rep] at h ⊢; exact h
  | .str, _, _, _, h => by simp only [rep] at h ⊢; exact h
  | .slice _, _, _, hf, _ => by simp [Ty.flat] at hf
  | .pair a b, x, cs, hf, h => by
    simp only [Ty.flat, Bool.and_eq_true] at hf
    simp only [rep] at h ⊢
    obtain ⟨c1, c2, h0, h1, h2⟩ := h
    exact ⟨c1, c2, h0, rep_flat a _ c1 hf.1 h1, rep_flat b _ c2 hf.2 h2⟩

/-- Rows one behind the other. -/
def reps (w : World) (F : Nat → Prop) (e : Ty) : List e.den → List Value → Prop
  | [], cs => cs = []
  | x :: xs, cs => ∃ c r, cs = c ++ r ∧ rep w F e x c ∧ reps w F e xs r
theorem reps_mono {w w' : World} {F F' : Nat → Prop} (hF : ∀ b, F b → F' b ∧ w'.heap[b]? = w.heap[b]?) (e : Ty) :
    ∀ (xs : List e.den) (cs : List Value), reps w F e xs cs → reps w' F' e xs cs
  | [], _, h => h
  | x :: xs, _, ⟨c, r, h0, h1, h2⟩ => ⟨c, r, h0, rep_mono hF e x c h1, reps_mono hF e xs r h2⟩
theorem reps_flat {w w' : World} {F F' : Nat → Prop} (e : Ty) (hf : e.flat = true) :
    ∀ (xs : List e.den) (cs : List Value), reps w F e xs cs → reps w' F' e xs cs
  | [], _, h => h
  | x :: xs, _, ⟨c, r, h0, h1, h2⟩ => ⟨c, r, h0, rep_flat e x c hf h1, reps_flat e hf xs r h2⟩
theorem reps_len {w : World} {F : Nat → Prop} (e : Ty) : ∀ (xs : List e.den) (cs : List Value), reps w F e xs cs → cs.length = xs.length * e.cells
  | [], _, h => by simp only [reps] at h; subst h; simp
  | x :: xs, _, ⟨c, r, h0, h1, h2⟩ => by
    rw [h0, List.length_append, rep_len e x c h1, reps_len e xs r h2, List.length_cons, Nat.add_mul, Nat.one_mul, Nat.add_comm]
theorem reps_one {w : World} {F : Nat → Prop} (e : Ty) : ∀ (xs : List e.den) (cs : List Value), reps w F e xs cs → ∀ v ∈ cs, v.oneCell' = true
  | [], _, h => by simp only [reps] at h; subst h; simp
  | x :: xs, _, ⟨c, r, h0, h1, h2⟩ => by
    subst h0
    intro v hv
    rcases List.mem_append.1 hv with hv | hv
    · exact rep_one e x c h1 v hv
    · exact reps_one e xs r h2 v hv
theorem reps_append {w : World} {F : Nat → Prop} (e : Ty) : ∀ (xs ys : List e.den) (cs ds : List Value), reps w F e xs cs → reps w F e ys ds → reps w F e (xs ++ ys) (cs ++ ds)
  | [], _, _, _, h, h' => by simp only [reps] at h; subst h; simpa using h'
  | x :: xs, ys, _, ds, ⟨c, r, h0, h1, h2⟩, h' => ⟨c, r ++ ds, by rw [h0, List.append_assoc], h1, reps_append e xs ys r ds h2 h'⟩
/-- Row i: its cells lie at i times the row's size. -/
theorem reps_at {w : World} {F : Nat → Prop} (e : Ty) : ∀ (xs : List e.den) (cs : List Value), reps w F e xs cs → ∀ i (h : i < xs.length),
    ∃ c, rep w F e xs[i] c ∧ (cs.drop (i * e.cells)).take e.cells = c
  | [], _, _, i, h => by simp at h
  | x :: xs, _, ⟨c, r, h0, h1, h2⟩, 0, _ => by
    refine ⟨c, h1, ?_⟩
    subst h0
    rw [Nat.zero_mul, List.drop_zero, ← rep_len e x c h1, List.take_left']
    rfl
  | x :: xs, _, ⟨c, r, h0, h1, h2⟩, i + 1, h => by
    obtain ⟨c', hc, hd⟩ := reps_at e xs r h2 i (by simpa using h)
    refine ⟨c', hc, ?_⟩
    subst h0
    rw [← hd, Nat.add_mul, Nat.one_mul, Nat.add_comm, ← rep_len e x c h1, ← List.drop_drop, List.drop_left']
    rfl
theorem reps_take {w : World} {F : Nat → Prop} (e : Ty) : ∀ (xs : List e.den) (cs : List Value), reps w F e xs cs → ∀ n, reps w F e (xs.take n) (cs.take (n * e.cells))
  | [], _, h, n => by simp only [reps] at h; subst h; simp [reps]
  | x :: xs, _, ⟨c, r, h0, h1, h2⟩, 0 => by simp [reps]
  | x :: xs, _, ⟨c, r, h0, h1, h2⟩, n + 1 => by
    refine ⟨c, r.take (n * e.cells), ?_, h1, reps_take e xs r h2 n⟩
    subst h0
    rw [Nat.add_mul, Nat.one_mul, Nat.add_comm, ← rep_len e x c h1, List.take_append, List.take_of_length_le (by omega)]
    congr 2
    omega
theorem reps_drop {w : World} {F : Nat → Prop} (e : Ty) : ∀ (xs : List e.den) (cs : List Value), reps w F e xs cs → ∀ n, reps w F e (xs.drop n) (cs.drop (n * e.cells))
  | [], _, h, n => by simp only [reps] at h; subst h; simp [reps]
  | x :: xs, cs, h, 0 => by simpa using h
  | x :: xs, _, ⟨c, r, h0, h1, h2⟩, n + 1 => by
    subst h0
    have hd : (c ++ r).drop ((n + 1) * e.cells) = r.drop (n * e.cells) := by
      rw [Nat.add_mul, Nat.one_mul, Nat.add_comm, ← rep_len e x c h1, ← List.drop_drop, List.drop_left' rfl]
    rw [hd, List.drop_succ_cons]
    exact reps_drop e xs r h2 n

/-! ## Values -/
structure Cx where
  P : Program
  w0 : World
  M0 : Nat → Prop
  F0 : Nat → Prop
  pins : Pins
  A0 : Nat → Value
  lw : World
  lK : Nat → Prop
structure Gh where
  anch : Nat → Value
  F : Nat → Prop
  U : Nat → Prop

/-- A value of a data type as the model hands it about: one cell bare, more as an aggregate. -/
def shape : Ty → Value → Prop
  | .pair _ _, x => ∃ cs, x = .agg cs
  | _, x => x.oneCell' = true
/-- What a call of a function value gives, whenever it is called while 'K' is as it is now. -/
def LamOk (P : Program) (w : World) (K : Nat → Prop) (F : Nat → Prop) (a b : Ty) (p : a.den → b.den) (v : Value) : Prop :=
  ∃ f caps, v = .func (.func f) #[] caps ∧ (∃ fn, P.funcs[f]? = some fn ∧ fn.name ≠ "runtime.NumGoroutine" ∧ fn.body.isSome = true) ∧ ∀ (w' : World) (F' : Nat → Prop) (x : a.den) (xv : Value),
    (∀ c, K c → w'.heap[c]? = w.heap[c]?) → w.heap.size ≤ w'.heap.size → (∀ c, F c → F' c) → (∀ c, F' c → c < w'.heap.size) → shape a xv → rep w' F' a x xv.cells.toList →
    Calls P f (#[xv] ++ caps) w' fun e w'' => ∃ r, e = .returned r ∧ Below w'.heap.size w' w'' ∧ shape b r ∧
      rep w'' (fun c => F' c ∨ (w'.heap.size ≤ c ∧ c < w''.heap.size)) b (p x) r.cells.toList

section
variable (C : Cx) (w : World) (g : Gh)
def Cx.K (c : Nat) : Prop := c < C.w0.heap.size ∧ ¬ C.M0 c
mutual
def RV : V → Value → Prop
  | .any, _ => True
  | .bl x, v => v = .bool x
  | .b x, v => v = .bool x
  | .i k n, v => v = .int k n ∧ k.min ≤ n ∧ n ≤ k.max
  | .s l, v => v = .string ⟨⟨l⟩⟩ ∧ l.length ≤ maxLen
  | .sl e xs, v => rep w g.F (.slice e) xs [v]
  | .nil, v => v = .slice none 0 0
  | .np, v => v = .pointer none
  | .nf, v => v = .nilFunc
  | .nm, v => v = .map none
  | .own id, v => g.U id ∧ v = g.anch id ∧ ∃ A n c, v = .slice A n c
  | .ptr id col, v => g.U id ∧ ∃ a, g.anch id = .pointer (some a) ∧ v = .pointer (some (a.add col))
  | .ep id e row col, v => g.U id ∧ ∃ a n c, g.anch id = .slice (some a) n c ∧ v = .pointer (some (a.add (row * e.cells + col)))
  | .mp id, v => g.U id ∧ v = g.anch id ∧ ∃ r, v = .map r
  | .vw id e lo n fl, v => g.U id ∧ ∃ A m c A' c', g.anch id = .slice A m c ∧ (A = none → c = 0) ∧ c ≤ maxLen ∧ v = .slice A' n c' ∧ lo + c' ≤ c ∧ n ≤ c' ∧ (fl = true → lo + c' = c) ∧ ((c' = 0 ∧ lo ≠ 0) ∨ A' = A.map (·.add (lo * e.cells)))
  | .lam a b p, v => LamOk C.P C.lw C.lK g.F a b p v
  | .fn f cs, v => ∃ vs, v = .func (.func f) #[] vs.toArray ∧ RVs cs vs
  | .agg cs, v => ∃ vs, v = .agg vs.toArray ∧ RVs cs vs
  | .tup cs, v => ∃ vs, v = .tuple vs.toArray ∧ RVs cs vs
  | .rp cs, v => ∃ a vs, v = .pointer (some a) ∧ g.F a.block ∧ (∀ (j : Nat) (x : Value), vs[j]? = some x → w.cell? (a.add j) = some x) ∧ RVs cs vs
def RVs : List V → List Value → Prop
  | [], vs => vs = []
  | c :: cs, vs => ∃ x xs, vs = x :: xs ∧ RV c x ∧ RVs cs xs
end

def ablk : Value → Option Nat
  | .pointer (some a) => some a.block
  | .slice (some a) _ _ => some a.block
  | .map (some r) => some r
  | _ => none
/-- May this block be written? -/
def MutOk (b : Nat) : Prop := (C.M0 b ∨ C.w0.heap.size ≤ b) ∧ ¬ g.F b
def Obj.mut : Obj → Bool
  | .box _ => true
  | .arr _ _ _ => true
  | .ice _ _ => false
  | .map _ _ _ => true
  | .raw _ _ _ => true
/-- Rows of which some are known. -/
def rawRep (w : World) (F : Nat → Prop) (e : Ty) (xs : List (Option e.den)) (cs : List Value) : Prop :=
  ∀ (i : Nat) (x : e.den), xs[i]? = some (some x) → rep w F e x ((cs.drop (i * e.cells)).take e.cells)
def keyRep : (k : Ty) → k.den → Value → Prop
  | .int q, n, v => v = .int q n ∧ q.min ≤ n ∧ n ≤ q.max
  | .str, l, v => v = .string ⟨⟨l⟩⟩ ∧ l.length ≤ maxLen
  | _, _, _ => False
/-- The entries of a map. -/
def mapRep (k e : Ty) (w : World) (F : Nat → Prop) : List (k.den × e.den) → List MapEntry → Prop
  | [], es => es = []
  | (a, v) :: r, es => ∃ x xs, es = x :: xs ∧ keyRep k a x.key ∧ rep w F e v [x.val] ∧ mapRep k e w F r xs
def RO (id : Nat) : Obj → Prop
  | .box cs => ∃ blk vs te, g.anch id = .pointer (some ⟨blk, 0, none⟩) ∧ w.heap[blk]? = some (.cells vs.toArray te (0, 0)) ∧ RVs C w g cs vs ∧ (∀ v ∈ vs, v.oneCell' = true) ∧ MutOk C g blk
  | .arr te e xs => ∃ cells, w.ownsRow 0 te e.cells (g.anch id) xs.length cells ∧ reps w g.F e xs cells ∧ 0 < e.cells ∧ (∀ b, ablk (g.anch id) = some b → MutOk C g b)
  | .ice e xs => rep w g.F (.slice e) xs [g.anch id]
  | .map k e l => ∃ blk es clock, g.anch id = .map (some blk) ∧ w.heap[blk]? = some (.map es clock) ∧ mapRep k e w g.F l es.toList ∧ MutOk C g blk
  | .raw te e xs => 0 < e.cells ∧ ((g.anch id = .slice none 0 0 ∧ xs = []) ∨ ∃ blk n cur, g.anch id = .slice (some ⟨blk, 0, none⟩) n xs.length ∧ w.heap[blk]? = some (.cells cur te (0, 0)) ∧ n ≤ xs.length ∧ xs.length ≤ maxLen ∧ cur.size = xs.length * e.cells ∧ rawRep w g.F e xs cur.toList ∧ MutOk C g blk)
end

section
variable {C : Cx} {w w' : World} {g g' : Gh}
theorem RVs_len : ∀ {cs : List V} {vs : List Value}, RVs C w g cs vs → vs.length = cs.length
  | [], _, h => by simp only [RVs] at h; subst h; rfl
  | c :: cs, _, h => by
    simp only [RVs] at h
    obtain ⟨x, xs, rfl, _, h2⟩ := h
    simp [RVs_len h2]
theorem RVs_append : ∀ {cs ds : List V} {vs us : List Value}, RVs C w g cs vs → RVs C w g ds us → RVs C w g (cs ++ ds) (vs ++ us)
  | [], _, _, _, h, h' => by simp only [RVs] at h; subst h; simpa using h'
  | c :: cs, ds, _, us, h, h' => by
    simp only [RVs] at h
    obtain ⟨x, xs, rfl, h1, h2⟩ := h
    simp only [List.cons_append, RVs]
    exact ⟨x, xs ++ us, rfl, h1, RVs_append h2 h'⟩
theorem RVs_split : ∀ {cs ds : List V} {vs : List Value}, RVs C w g (cs ++ ds) vs → ∃ us ts, vs = us ++ ts ∧ RVs C w g cs us ∧ RVs C w g ds ts
  | [], ds, vs, h => ⟨[], vs, rfl, by simp [RVs], h⟩
  | c :: cs, ds, vs, h => by
    simp only [List.cons_append, RVs] at h
    obtain ⟨x, xs, rfl, h1, h2⟩ := h
    obtain ⟨us, ts, rfl, h3, h4⟩ := RVs_split h2
    exact ⟨x :: us, ts, rfl, by simp only [RVs]; exact ⟨x, us, rfl, h1, h3⟩, h4⟩
theorem RVs_at : ∀ {cs : List V} {vs : List Value}, RVs C w g cs vs → ∀ {j : Nat} {c : V}, cs[j]? = some c → ∃ v, vs[j]? = some v ∧ RV C w g c v
  | [], _, _, _, _, h => by simp at h
  | c :: cs, _, h, 0, c', hj => by
    simp only [RVs] at h
    obtain ⟨x, xs, rfl, h1, h2⟩ := h
    simp at hj; subst hj
    exact ⟨x, rfl, h1⟩
  | c :: cs, _, h, j + 1, c', hj => by
    simp only [RVs] at h
    obtain ⟨x, xs, rfl, h1, h2⟩ := h
    simpa using RVs_at h2 (by simpa using hj)
theorem RVs_drop : ∀ (n : Nat) {cs : List V} {vs : List Value}, RVs C w g cs vs → RVs C w g (cs.drop n) (vs.drop n)
  | 0, _, _, h => h
  | n + 1, [], _, h => by simp only [RVs] at h; subst h; simp [RVs]
  | n + 1, c :: cs, _, h => by
    simp only [RVs] at h
    obtain ⟨x, xs, rfl, h1, h2⟩ := h
    simpa using RVs_drop n h2
theorem RVs_take : ∀ (n : Nat) {cs : List V} {vs : List Value}, RVs C w g cs vs → RVs C w g (cs.take n) (vs.take n)
  | 0, _, _, _ => by simp [RVs]
  | n + 1, [], _, h => by simp only [RVs] at h; subst h; simp [RVs]
  | n + 1, c :: cs, _, h => by
    simp only [RVs] at h
    obtain ⟨x, xs, rfl, h1, h2⟩ := h
    simp only [List.take_succ_cons, RVs]
    exact ⟨x, xs.take n, rfl, h1, RVs_take n h2⟩

/-- What stands for things that were there goes on standing. -/
structure Evo (w : World) (g : Gh) (w' : World) (g' : Gh) : Prop where
  F : ∀ b, g.F b → g'.F b ∧ w'.heap[b]? = w.heap[b]?
  A : ∀ id, g.U id → g'.U id ∧ g'.anch id = g.anch id
theorem Evo.refl (w : World) (g : Gh) : Evo w g w g := ⟨fun _ h => ⟨h, rfl⟩, fun _ h => ⟨h, rfl⟩⟩
theorem Evo.trans {w'' : World} {g'' : Gh} (h : Evo w g w' g') (k : Evo w' g' w'' g'') : Evo w g w'' g'' :=
  ⟨fun b hb => ⟨(k.F b (h.F b hb).1).1, (k.F b (h.F b hb).1).2.trans (h.F b hb).2⟩, fun id hi => ⟨(k.A id (h.A id hi).1).1, (k.A id (h.A id hi).1).2.trans (h.A id hi).2⟩⟩

/-- The things that the caller watches keep their names. -/
def Cx.Pin (C : Cx) (g : Gh) : Prop := ∀ j ∈ C.pins.1, g.U j ∧ g.anch j = C.A0 j
theorem Evo.pin (h : Evo w g w' g') {C : Cx} (k : C.Pin g) : C.Pin g' := fun j hj => ⟨(h.A j (k j hj).1).1, (h.A j (k j hj).1).2.trans (k j hj).2⟩

theorem rawRep_mono {w w' : World} {F F' : Nat → Prop} (hF : ∀ b, F b → F' b ∧ w'.heap[b]? = w.heap[b]?) {e : Ty} {xs : List (Option e.den)} {cs : List Value} (h : rawRep w F e xs cs) : rawRep w' F' e xs cs :=
  fun i x hi => rep_mono hF e x _ (h i x hi)
theorem mapRep_mono {w w' : World} {F F' : Nat → Prop} (hF : ∀ b, F b → F' b ∧ w'.heap[b]? = w.heap[b]?) {k e : Ty} : ∀ {l : List (k.den × e.den)} {es : List MapEntry}, mapRep k e w F l es → mapRep k e w' F' l es
  | [], _, h => h
  | (a, v) :: r, _, ⟨x, xs, h0, h1, h2, h3⟩ => ⟨x, xs, h0, h1, rep_mono hF e v _ h2, mapRep_mono hF h3⟩
theorem add_block (a : Addr) (n : Nat) : (a.add n).block = a.block := by unfold Addr.add; split <;> rfl
theorem add_add (a : Addr) (i j : Nat) : (a.add i).add j = a.add (i + j) := by
  unfold Addr.add
  by_cases hi : i = 0 <;> by_cases hj : j = 0 <;> simp [hi, hj, Nat.add_assoc]

mutual
theorem RV_mono (h : Evo w g w' g') : ∀ (v : V) (x : Value), RV C w g v x → RV C w' g' v x
  | .any, _, _ => by simp [RV]
  | .bl _, _, hv => by simp only [RV] at hv ⊢; exact hv
  | .b _, _, hv => by simp only [RV] at hv ⊢; exact hv
  | .i _ _, _, hv => by simp only [RV] at hv ⊢; exact hv
  | .s _, _, hv => by simp only [RV] at hv ⊢; exact hv
  | .sl e xs, v, hv => by simp only [RV] at hv ⊢; exact rep_mono h.F _ _ _ hv
  | .nil, _, hv => by simp only [RV] at hv ⊢; exact hv
  | .np, _, hv => by simp only [RV] at hv ⊢; exact hv
  | .nf, _, hv => by simp only [RV] at hv ⊢; exact hv
  | .nm, _, hv => by simp only [RV] at hv ⊢; exact hv
  | .own id, _, hv => by
    simp only [RV] at hv ⊢
    exact ⟨(h.A id hv.1).1, by rw [(h.A id hv.1).2]; exact hv.2.1, hv.2.2⟩
  | .ptr id col, _, hv => by
    simp only [RV] at hv ⊢
    exact ⟨(h.A id hv.1).1, by rw [(h.A id hv.1).2]; exact hv.2⟩
  | .ep id e r c, _, hv => by
    simp only [RV] at hv ⊢
    exact ⟨(h.A id hv.1).1, by rw [(h.A id hv.1).2]; exact hv.2⟩
  | .mp id, _, hv => by
    simp only [RV] at hv ⊢
    exact ⟨(h.A id hv.1).1, by rw [(h.A id hv.1).2]; exact hv.2⟩
  | .vw id e lo n fl, _, hv => by
    simp only [RV] at hv ⊢
    exact ⟨(h.A id hv.1).1, by rw [(h.A id hv.1).2]; exact hv.2⟩
  | .lam a b p, _, hv => by
    simp only [RV, LamOk] at hv ⊢
    obtain ⟨f, caps, h1, h0, h2⟩ := hv
    exact ⟨f, caps, h1, h0, fun w1 F1 x xv hk hs hf => h2 w1 F1 x xv hk hs (fun c hc => hf c (h.F c hc).1)⟩
  | .fn f cs, v, hv => by
    simp only [RV] at hv ⊢
    obtain ⟨vs, h1, h2⟩ := hv
    exact ⟨vs, h1, RVs_mono h cs vs h2⟩
  | .agg cs, v, hv => by
    simp only [RV] at hv ⊢
    obtain ⟨vs, h1, h2⟩ := hv
    exact ⟨vs, h1, RVs_mono h cs vs h2⟩
  | .tup cs, v, hv => by
    simp only [RV] at hv ⊢
    obtain ⟨vs, h1, h2⟩ := hv
    exact ⟨vs, h1, RVs_mono h cs vs h2⟩
  | .rp cs, v, hv => by
    simp only [RV] at hv ⊢
    obtain ⟨a, vs, h1, h2, h3, h4⟩ := hv
    refine ⟨a, vs, h1, (h.F _ h2).1, fun j x hx => ?_, RVs_mono h cs vs h4⟩
    rw [← h3 j x hx]
    exact World.cell?_of_block (w := w) (by rw [add_block]; exact (h.F _ h2).2)
theorem RVs_mono (h : Evo w g w' g') : ∀ (cs : List V) (vs : List Value), RVs C w g cs vs → RVs C w' g' cs vs
  | [], _, hv => by simp only [RVs] at hv ⊢; exact hv
  | c :: cs, _, hv => by
    simp only [RVs] at hv ⊢
    obtain ⟨x, xs, h1, h2, h3⟩ := hv
    exact ⟨x, xs, h1, RV_mono h c x h2, RVs_mono h cs xs h3⟩
end

theorem RV_one : ∀ {v : V} {x : Value}, v.one = true → RV C w g v x → x.oneCell' = true
  | .any, _, h, _ => by simp [V.one] at h
  | .bl _, _, _, hv => by simp only [RV] at hv; subst hv; rfl
  | .b _, _, _, hv => by simp only [RV] at hv; subst hv; rfl
  | .i _ _, _, _, hv => by simp only [RV] at hv; rw [hv.1]; rfl
  | .s _, _, _, hv => by simp only [RV] at hv; rw [hv.1]; rfl
  | .sl e xs, v, _, hv => by simp only [RV] at hv; exact rep_one _ _ _ hv v (by simp)
  | .nil, _, _, hv => by simp only [RV] at hv; subst hv; rfl
  | .np, _, _, hv => by simp only [RV] at hv; subst hv; rfl
  | .nf, _, _, hv => by simp only [RV] at hv; subst hv; rfl
  | .nm, _, _, hv => by simp only [RV] at hv; subst hv; rfl
  | .own id, _, _, hv => by simp only [RV] at hv; obtain ⟨_, _, A, n, c, rfl⟩ := hv; rfl
  | .ptr id col, _, _, hv => by simp only [RV] at hv; obtain ⟨_, a, _, rfl⟩ := hv; rfl
  | .ep id e r c, _, _, hv => by simp only [RV] at hv; obtain ⟨_, a, _, _, _, rfl⟩ := hv; rfl
  | .mp id, _, _, hv => by simp only [RV] at hv; obtain ⟨_, _, r, rfl⟩ := hv; rfl
  | .vw id e lo n fl, _, _, hv => by simp only [RV] at hv; obtain ⟨_, A, m, c, A', c', _, _, _, rfl, _⟩ := hv; rfl
  | .lam a b p, _, _, hv => by simp only [RV, LamOk] at hv; obtain ⟨_, _, rfl, _⟩ := hv; rfl
  | .fn f cs, _, _, hv => by simp only [RV] at hv; obtain ⟨_, rfl, _⟩ := hv; rfl
  | .agg _, _, h, _ => by simp [V.one] at h
  | .tup _, _, h, _ => by simp [V.one] at h
  | .rp cs, _, _, hv => by simp only [RV] at hv; obtain ⟨_, _, rfl, _⟩ := hv; rfl
theorem RVs_one : ∀ {cs : List V} {vs : List Value}, cs.all V.one = true → RVs C w g cs vs → ∀ v ∈ vs, v.oneCell' = true
  | [], _, _, h => by simp only [RVs] at h; subst h; simp
  | c :: cs, _, ha, h => by
    simp only [RVs] at h
    obtain ⟨x, xs, rfl, h1, h2⟩ := h
    simp only [List.all_cons, Bool.and_eq_true] at ha
    intro v hv
    rcases List.mem_cons.1 hv with rfl | hv
    · exact RV_one ha.1 h1
    · exact RVs_one ha.2 h2 v hv

/-- The cells of a value, abstract and true. -/
theorem RV_cells {v : V} {x : Value} (h : RV C w g v x) (hone : v.cells.all V.one = true) : RVs C w g v.cells x.cells.toList := by
  have single : ∀ {u : V}, u.cells = [u] → RV C w g u x → u.one = true → RVs C w g u.cells x.cells.toList := by
    intro u hu hr ho
    have := RV_one ho hr
    rw [hu]
    simp only [RVs]
    refine ⟨x, [], ?_, hr, rfl⟩
    cases x <;> simp [Value.oneCell'] at this <;> rfl
  cases v
  case agg cs =>
    simp only [RV] at h
    obtain ⟨vs, rfl, h2⟩ := h
    simpa [V.cells, Value.cells] using h2
  all_goals (refine single rfl h ?_; simpa [V.cells] using hone)

/-! ## Data as abstract cells, and back -/
theorem RVs_ofDen : ∀ (e : Ty) (x : e.den) (cs : List Value), rep w g.F e x cs → RVs C w g (ofDen e x) cs
  | .bool, x, cs, h => by simp only [rep] at h; subst h; simp [ofDen, RVs, RV]
  | .int k, n, cs, h => by simp only [rep] at h; obtain ⟨rfl, h1, h2⟩ := h; simp [ofDen, RVs, RV, h1, h2]
  | .str, l, cs, h => by simp only [rep] at h; obtain ⟨rfl, h1⟩ := h; simp [ofDen, RVs, RV, h1]
  | .slice e, xs, cs, h => by
    have hl := rep_len _ _ _ h
    match cs, hl with
    | [v], _ => simp only [ofDen, RVs]; exact ⟨v, [], rfl, by simp only [RV]; exact h, rfl⟩
  | .pair a b, x, cs, h => by
    simp only [rep] at h
    obtain ⟨c1, c2, rfl, h1, h2⟩ := h
    exact RVs_append (RVs_ofDen a x.1 c1 h1) (RVs_ofDen b x.2 c2 h2)
theorem ofDen_len : ∀ (e : Ty) (x : e.den), (ofDen e x).length = e.cells
  | .bool, _ => rfl
  | .int _, _ => rfl
  | .str, _ => rfl
  | .slice _, _ => rfl
  | .pair a b, x => by simp [ofDen, Ty.cells, ofDen_len a x.1, ofDen_len b x.2]
theorem ofDen_one : ∀ (e : Ty) (x : e.den), (ofDen e x).all V.one = true
  | .bool, _ => rfl
  | .int _, _ => rfl
  | .str, _ => rfl
  | .slice _, _ => rfl
  | .pair a b, x => by simp only [ofDen, List.all_append, ofDen_one a x.1, ofDen_one b x.2, Bool.and_self]

/-- A row as a value. -/
theorem RV_vOfDen : ∀ (b : Ty) (y : b.den) (r : Value), rep w g.F b y r.cells.toList → shape b r → RV C w g (vOfDen b y) r
  | .bool, y, r, h, hs => by
    simp only [rep] at h
    cases r <;> simp [shape, Value.oneCell', Value.cells] at h hs
    subst h; simp [vOfDen, RV]
  | .int k, y, r, h, hs => by
    simp only [rep] at h
    cases r <;> simp [shape, Value.oneCell', Value.cells] at h hs
    obtain ⟨⟨rfl, rfl⟩, h1⟩ := h
    simp only [vOfDen, RV, true_and]; exact h1
  | .str, y, r, h, hs => by
    simp only [rep] at h
    cases r <;> simp [shape, Value.oneCell', Value.cells] at h hs
    obtain ⟨rfl, h1⟩ := h
    simp only [vOfDen, RV, true_and]; exact h1
  | .slice e, y, r, h, hs => by
    simp only [vOfDen, RV]
    have : r.cells.toList = [r] := by cases r <;> simp [shape, Value.oneCell', Value.cells] at hs ⊢
    rwa [this] at h
  | .pair a b, y, r, h, hs => by
    obtain ⟨cs, rfl⟩ := hs
    simp only [vOfDen, RV]
    exact ⟨cs.toList, by simp, RVs_ofDen (.pair a b) y _ h⟩

theorem castO_eq {e e' : Ty} {xs : List (Option e.den)} {ys : List (Option e'.den)} (h : castO e e' xs = some ys) : ∃ he : e = e', he ▸ xs = ys := by
  unfold castO at h
  split at h
  · rename_i he _
    subst he
    exact ⟨rfl, by simpa using h⟩
  · simp at h
theorem castM_eq {k k' e e' : Ty} {l : List (k.den × e.den)} {l' : List (k'.den × e'.den)} (h : castM k k' e e' l = some l') : ∃ (hk : k = k') (he : e = e'), hk ▸ he ▸ l = l' := by
  unfold castM at h
  split at h
  · rename_i hk he _ _
    subst hk; subst he
    exact ⟨rfl, rfl, by simpa using h⟩
  · simp at h
theorem castL_eq {e e' : Ty} {xs : List e.den} {ys : List e'.den} (h : castL e e' xs = some ys) : ∃ he : e = e', he ▸ xs = ys := by
  unfold castL at h
  split at h
  · rename_i he _
    subst he
    exact ⟨rfl, by simpa using h⟩
  · simp at h

end
end Go.Eng
