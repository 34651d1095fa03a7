import Derived.Test.YtlfehkoklgmjjaaEngP
import Derived.WalkKit
import Derived.ProofKit
import Derived.OpenShut
import Derived.ChangeOld
import Derived.Below
import Derived.ChangeSame
import Derived.Carry
/- The arguments of a law: what they read as lies in memory as data. A law's row, from what its body shows. -/
set_option linter.unusedVariables false
set_option linter.unusedSimpArgs false
namespace Go.Eng
open Go.RowKit (Below)

/-! ## What reads as data is data -/
def lawFold (P : Program) (row : TypeId → Option Ty) : Nat → List Field → Option Ty
  | _, [] => none
  | off, f :: r => if f.offset = off then
      match row f.type with
      | some a => if a.cells = P.cellsOf f.type then
          match r with
          | [] => some a
          | _ => (lawFold P row (off + a.cells) r).map (Ty.pair a)
        else none
      | none => none
    else none
def lawArr (a : Ty) : Nat → Option Ty
  | 0 => none
  | 1 => some a
  | n + 1 => (lawArr a n).map (Ty.pair a)
def lawRow (P : Program) : Nat → TypeId → Option Ty
  | 0, _ => none
  | n + 1, t => match P.underlying t with
    | some .bool => some .bool
    | some (.int k) => some (.int k)
    | some .string => some .str
    | some (.slice e) => match lawRow P n e with
      | some a => if a.cells = P.cellsOf e then some (.slice a) else none
      | none => none
    | some (.struct fs) => match lawFold P (lawRow P n) 0 fs.toList with
      | some a => if a.cells = P.cellsOf t then some a else none
      | none => none
    | some (.array m e) => match lawRow P n e with
      | some a => if a.cells = P.cellsOf e then
          match lawArr a m with
          | some b => if b.cells = P.cellsOf t then some b else none
          | none => none
        else none
      | none => none
    | _ => none

section
variable {H : Type} {enc : TypeId × Value → H} {P : Program} {W : World} {base : Nat} {spare : Nat → Bool} {held : Bool}

theorem mapM_some {α β : Type} {f : α → Option β} : ∀ {l : List α} {ys : List β}, l.mapM f = some ys → ys.length = l.length ∧ ∀ (i : Nat) (x : α), l[i]? = some x → ∃ y, ys[i]? = some y ∧ f x = some y
  | [], ys, h => by simp at h; subst h; simp
  | a :: l, ys, h => by
    simp only [List.mapM_cons, Option.pure_def, Option.bind_eq_bind] at h
    cases hf : f a with
    | none => simp [hf] at h
    | some b =>
      simp only [hf, Option.bind_some] at h
      cases hm : l.mapM f with
      | none => simp [hm] at h
      | some bs =>
        simp only [hm, Option.bind_some, Option.some.injEq] at h
        subst h
        obtain ⟨h1, h2⟩ := mapM_some hm
        refine ⟨by simp [h1], fun i x hi => ?_⟩
        cases i with
        | zero => simp at hi; subst hi; exact ⟨b, by simp, hf⟩
        | succ i => simpa using h2 i x (by simpa using hi)
theorem choose_list {α : Type} {p : Nat → α → Prop} : ∀ (n : Nat), (∀ i, i < n → ∃ x, p i x) → ∃ xs : List α, xs.length = n ∧ ∀ i (h : i < xs.length), p i xs[i]
  | 0, _ => ⟨[], rfl, fun i h => by simp at h⟩
  | n + 1, h => by
    obtain ⟨xs, h1, h2⟩ := choose_list n (fun i hi => h i (by omega))
    obtain ⟨x, hx⟩ := h n (by omega)
    refine ⟨xs ++ [x], by simp [h1], fun i hi => ?_⟩
    by_cases hin : i < xs.length
    · rw [List.getElem_append_left hin]; exact h2 i hin
    · have : i = n := by simp at hi; omega
      subst this
      rw [List.getElem_append_right (by omega)]
      simpa [h1] using hx
theorem cells_of {a : Addr} {n : Nat} {ci : List Value} (h : W.cells? base a n = some ci) : ci.length = n ∧ ∀ (j : Nat) (v : Value), ci[j]? = some v → W.cell? (a.add j) = some v := by
  unfold World.cells? at h
  split at h
  · obtain ⟨h1, h2⟩ := mapM_some h
    refine ⟨by simpa using h1, fun j v hj => ?_⟩
    have hlt : j < n := by have := (List.getElem?_eq_some_iff.1 hj).1; simp at h1; omega
    obtain ⟨y, h3, h4⟩ := h2 j j (by simp [hlt])
    rw [h3] at hj; simp at hj; subst hj
    exact h4
  · cases h
theorem cell_block {a : Addr} {v : Value} (h : W.cell? a = some v) : a.block < W.heap.size := by
  unfold World.cell? at h
  split at h
  · rename_i q; exact (Array.getElem?_eq_some_iff.1 q).1
  · cases h

theorem rep_of_trod : ∀ (fuel n : Nat) (t : TypeId) (ty : Ty) (cs : List Value) (d : DataW H) (ps : List MemPlace), lawRow P n t = some ty → DataW.trod enc P W base spare held fuel t cs = some (d, ps) →
    ∃ x : ty.den, rep W (fun b => b < W.heap.size) ty x cs := by
  intro fuel
  induction fuel with
  | zero => intro n t ty cs d ps _ h; simp [DataW.trod] at h
  | succ fuel ih =>
    intro n t ty cs d ps hl h
    cases n with
    | zero => simp [lawRow] at hl
    | succ n =>
      unfold lawRow at hl
      unfold DataW.trod at h
      split at hl
      · -- bool
        rename_i hu
        simp at hl; subst hl
        rw [hu] at h
        split at h
        all_goals first | (cases h; done) | skip
        all_goals (rename_i q; cases q)
        exact ⟨_, rfl⟩
      · -- int
        rename_i k hu
        simp at hl; subst hl
        rw [hu] at h
        split at h
        all_goals first | (cases h; done) | skip
        all_goals (rename_i q; cases q)
        rename_i n'
        split at h
        · rename_i hk
          obtain ⟨rfl, hk⟩ := hk
          refine ⟨n', ?_⟩
          simp only [rep]
          refine ⟨by trivial, ?_⟩
          simpa [Lit.wf] using hk
        · cases h
      · -- string
        rename_i hu
        simp at hl; subst hl
        rw [hu] at h
        split at h
        all_goals first | (cases h; done) | skip
        all_goals (rename_i q; cases q)
        rename_i s
        split at h
        · rename_i hk
          refine ⟨s.data.toList, ?_⟩
          simp only [rep]
          exact ⟨by trivial, by rw [Array.length_toList]; exact hk⟩
        · cases h
      · -- slice
        rename_i e hu
        rw [hu] at h
        split at hl
        · rename_i a ha
          split at hl
          · rename_i hc
            simp at hl; subst hl
            split at h
            all_goals first | (cases h; done) | skip
            all_goals (rename_i q; cases q)
            · exact ⟨[], none, 0, rfl, by simp, by simp, fun _ => rfl, fun i hi => by simp at hi⟩
            · rename_i ad len cap
              dsimp only at h
              split at h
              · rename_i hle
                cases hm : (List.range len).mapM (fun i => (W.cells? base (ad.add (i * P.cellsOf e)) (P.cellsOf e)).bind (DataW.trod enc P W base spare held fuel e)) with
                | none => rw [hm] at h; simp at h
                | some els =>
                  obtain ⟨h1, h2⟩ := mapM_some hm
                  obtain ⟨xs, hx1, hx2⟩ := choose_list (p := fun i (x : a.den) => ∃ a' ci, some ad = some a' ∧ a'.block < W.heap.size ∧ (∀ (j : Nat) (v : Value), ci[j]? = some v → W.cell? (a'.add (i * a.cells + j)) = some v) ∧ rep W (fun b => b < W.heap.size) a x ci) len (fun i hi => by
                    obtain ⟨y, q1, q2⟩ := h2 i i (by simp [hi])
                    cases hcs : W.cells? base (ad.add (i * P.cellsOf e)) (P.cellsOf e) with
                    | none => rw [hcs] at q2; simp at q2
                    | some ci =>
                      rw [hcs] at q2
                      simp only [Option.bind_some] at q2
                      obtain ⟨c1, c2⟩ := cells_of hcs
                      obtain ⟨x, hx⟩ := ih n e a ci y.1 y.2 ha q2
                      have hpos := cells_pos a
                      have hcell : ∃ v, ci[0]? = some v := ⟨ci[0]'(by omega), by simp⟩
                      obtain ⟨v, hv⟩ := hcell
                      have hb := cell_block (c2 0 v hv)
                      rw [add_block, add_block] at hb
                      exact ⟨x, ad, ci, rfl, hb, fun j v hj => by have := c2 j v hj; rw [add_add, ← hc] at this; exact this, hx⟩)
                  exact ⟨xs, some ad, cap, by simp [hx1], by omega, hle.2.2, by simp, hx2⟩
              · simp at h
          · simp at hl
        · simp at hl
      · -- struct
        rename_i fs hu
        rw [hu] at h
        split at hl
        · rename_i a ha
          split at hl
          · rename_i hc
            simp at hl; subst hl
            simp only at h
            split at h
            · rename_i hlen
              cases hm : fs.toList.mapM (fun f => DataW.trod enc P W base spare held fuel f.type ((cs.drop f.offset).take (P.cellsOf f.type))) with
              | none => rw [hm] at h; simp at h
              | some xs =>
                obtain ⟨h1, h2⟩ := mapM_some hm
                have key : ∀ (l : List Field) (off : Nat) (b : Ty), lawFold P (lawRow P n) off l = some b → off + b.cells = cs.length → (∀ f ∈ l, ∃ y, DataW.trod enc P W base spare held fuel f.type ((cs.drop f.offset).take (P.cellsOf f.type)) = some y) → ∃ x : b.den, rep W (fun b => b < W.heap.size) b x (cs.drop off) := by
                  intro l
                  induction l with
                  | nil => intro off b hb; simp [lawFold] at hb
                  | cons f r ihr =>
                    intro off b hb hl hall
                    simp only [lawFold] at hb
                    split at hb
                    · rename_i hoff
                      split at hb
                      · rename_i a' ha'
                        split at hb
                        · rename_i hca
                          obtain ⟨y, hy⟩ := hall f (by simp)
                          obtain ⟨x, hx⟩ := ih n f.type a' _ y.1 y.2 ha' hy
                          rw [hoff, ← hca] at hx
                          split at hb
                          · simp at hb; subst hb
                            rw [List.take_of_length_le (by simp; omega)] at hx
                            exact ⟨x, hx⟩
                          · cases hr : lawFold P (lawRow P n) (off + a'.cells) r with
                            | none => rw [hr] at hb; simp at hb
                            | some b' =>
                              rw [hr] at hb; simp at hb; subst hb
                              simp only [Ty.cells] at hl
                              obtain ⟨x', hx'⟩ := ihr (off + a'.cells) b' hr (by omega) (fun f' hf' => hall f' (by simp [hf']))
                              refine ⟨(x, x'), ?_⟩
                              simp only [rep]
                              exact ⟨_, _, by rw [← List.drop_drop, List.take_append_drop], hx, hx'⟩
                        · simp at hb
                      · simp at hb
                    · simp at hb
                have := key fs.toList 0 a ha (by omega) (fun f hf => by
                  obtain ⟨i, hi⟩ := List.mem_iff_getElem?.1 hf
                  obtain ⟨y, _, q2⟩ := h2 i f hi
                  exact ⟨y, q2⟩)
                simpa using this
            · simp at h
          · simp at hl
        · simp at hl
      · -- array
        rename_i m e hu
        rw [hu] at h
        split at hl
        · rename_i a ha
          split at hl
          · rename_i hc
            split at hl
            · rename_i b hb
              split at hl
              · rename_i hcb
                simp at hl; subst hl
                simp only at h
                split at h
                · rename_i hlen
                  cases hm : (List.range m).mapM (fun i => DataW.trod enc P W base spare held fuel e ((cs.drop (i * P.cellsOf e)).take (P.cellsOf e))) with
                  | none => rw [hm] at h; simp at h
                  | some xs =>
                    obtain ⟨h1, h2⟩ := mapM_some hm
                    have key : ∀ (k i : Nat) (b : Ty), lawArr a k = some b → i + k = m → i * a.cells + b.cells = cs.length → ∃ x : b.den, rep W (fun b => b < W.heap.size) b x (cs.drop (i * a.cells)) := by
                      intro k
                      induction k with
                      | zero => intro i b hb; simp [lawArr] at hb
                      | succ k ihk =>
                        intro i b hb hik hl
                        obtain ⟨y, _, hy⟩ := h2 i i (by rw [List.getElem?_range (by omega)])
                        obtain ⟨x, hx⟩ := ih n e a _ y.1 y.2 ha hy
                        rw [← hc] at hx
                        cases k with
                        | zero =>
                          simp [lawArr] at hb; subst hb
                          rw [List.take_of_length_le (by simp; omega)] at hx
                          exact ⟨x, hx⟩
                        | succ k =>
                          simp only [lawArr] at hb
                          cases hr : lawArr a (k + 1) with
                          | none => rw [hr] at hb; simp at hb
                          | some b' =>
                            rw [hr] at hb; simp at hb; subst hb
                            simp only [Ty.cells] at hl
                            obtain ⟨x', hx'⟩ := ihk (i + 1) b' hr (by omega) (by rw [Nat.add_mul, Nat.one_mul]; omega)
                            refine ⟨(x, x'), ?_⟩
                            simp only [rep]
                            refine ⟨_, _, ?_, hx, hx'⟩
                            rw [Nat.add_mul, Nat.one_mul, ← List.drop_drop, List.take_append_drop]
                    have := key m 0 b hb (by omega) (by omega)
                    simpa using this
                · simp at h
              · simp at hl
            · simp at hl
          · simp at hl
        · simp at hl
      · simp at hl
end
end Go.Eng
