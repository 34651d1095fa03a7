import Derived.Test.YtlfehkoklgmjjaaEngX
/- A callee's body in place of its call, that is handed a slice of one's own first: with all its room. -/
set_option linter.unusedVariables false
set_option linter.unusedSimpArgs false
namespace Go.Eng
open Go.RowKit (Below)
def shutK (m : Nat) (K : V → Heap → Prop) (v : V) (h : Heap) : Prop :=
  match v with
  | .vw id e0 0 n true => match lookN h id with
    | some (.raw te e xs) => Leaf ((xs.take n).all Option.isSome = true) ∧ Ev (forceH ((m, .arr te e ((xs.take n).map fun r => r.getD e.dflt)) :: delObj h id) fun h => K (.own m) h)
    | _ => False
  | v => K v h
def opnK (T : Tab) (S : Specs) (keep : List (Nat × List Nat)) (fn : Func) (args : List V) (h : Heap) (fresh : Nat) (K : V → Heap → Prop) : Prop :=
  match args with
  | .own id :: rest => match lookN h id with
    | some (.arr te e xs) => ∀ kk : Nat, xs.length + kk ≤ maxLen → Ev (forceN (fresh + 7) fun m => forceH (setObj h id (.raw te e (xs.map some ++ List.replicate kk none))) fun h =>
        inlK T S keep fn (.vw id e 0 xs.length true :: rest) h fresh (shutK m K))
    | _ => False
  | _ => False
def opn (T : Tab) (S : Specs) (keep : List (Nat × List Nat)) (fn : Func) : Spec := ⟨fun _ _ _ => none, fun _ _ _ => none, opnK T S keep fn⟩

section
variable {C C' : Cx} {w w' : World} {g g' : Gh} {h : Heap} {T : Tab} {S : Specs} {N n : Nat} {keep : List (Nat × List Nat)}
theorem RelH.opened (R : RelH C h w g) {id : Nat} {te : TypeId} {e : Ty} {xs : List e.den} (ho : lookN h id = some (.arr te e xs)) {o : Obj} (hm : o.mut = true) (hO : RO C w g id o) : RelH C (setObj h id o) w g := by
  have look : ∀ k p, lookN (setObj h id o) k = some p → (k = id ∧ p = o) ∨ (k ≠ id ∧ lookN h k = some p) := fun k p hk => by
    rw [lookN_setObj] at hk
    by_cases he : k = id
    · rw [if_pos he, ho] at hk
      simp at hk
      exact .inl ⟨he, hk.symm⟩
    · rw [if_neg he] at hk
      exact .inr ⟨he, hk⟩
  have hbm : ∀ p, lookN (setObj h id o) id = some p → p.mut = true := fun p hp => by
    rcases look _ _ hp with ⟨_, rfl⟩ | ⟨h1, _⟩
    · exact hm
    · exact absurd rfl h1
  refine ⟨R.keep, R.size, R.os, R.tape, R.output, R.F, R.Fin, R.pin, R.lam, fun k p hk => ?_, fun k1 p1 k2 p2 b h1 h2 m1 m2 b1 b2 => ?_⟩
  · rcases look k p hk with ⟨rfl, rfl⟩ | ⟨_, h2⟩
    · exact ⟨(R.obj _ _ ho).1, hO⟩
    · exact R.obj k p h2
  · rcases look k1 p1 h1 with ⟨rfl, rfl⟩ | ⟨a1, a2⟩ <;> rcases look k2 p2 h2 with ⟨rfl, rfl⟩ | ⟨c1, c2⟩
    · rfl
    · exact R.sep _ _ _ _ b ho c2 rfl m2 b1 b2
    · exact R.sep _ _ _ _ b a2 ho m1 rfl b1 b2
    · exact R.sep _ _ _ _ b a2 c2 m1 m2 b1 b2
theorem closed {fresh : Nat} {x : Value} {id : Nat} {e0 te e : _} {n : Nat} {xs : List (Option (Ty.den e))} (W : WRes C w g fresh (.vw id e0 0 n true) h x w' g') (h7 : ∀ id, g'.U id → g.U id ∨ (fresh ≤ id ∧ id < fresh + 7)) (hf : FreshIds g fresh)
    (ho : lookN h id = some (.raw te e xs)) (hall : (xs.take n).all Option.isSome = true) :
    ∃ g2, WRes C w g fresh (.own (fresh + 7)) ((fresh + 7, .arr te e ((xs.take n).map fun r => r.getD e.dflt)) :: delObj h id) x w' g2 := by
  have hU : ¬ g'.U (fresh + 7) := fun hc => by
    rcases h7 _ hc with h1 | h1
    · exact hf _ (by omega) (by omega) h1
    · omega
  have hv := W.val
  simp only [RV] at hv
  obtain ⟨hUi, A2, m2, c2, A3, c3, f1, f2, f3, rfl, f4, f5, f6, f7⟩ := hv
  have f6 := f6 trivial
  rw [Nat.zero_add] at f6
  subst f6
  have hA3 : A3 = A2 := by
    rcases f7 with f7 | f7
    · omega
    · rw [f7]; cases A2 <;> simp [Addr.add]
  subst hA3
  have hO := (W.rel.obj id _ ho).2
  obtain ⟨hcx, _⟩ := raw_cap hO f1
  let g2 : Gh := ⟨upd g'.anch (fresh + 7) (.slice A3 n c3), g'.F, fun k => g'.U k ∨ k = fresh + 7⟩
  have hanch : g2.anch (fresh + 7) = .slice A3 n c3 := upd_same _ _ _
  have hold : ∀ k, k ≠ fresh + 7 → g2.anch k = g'.anch k := fun k hk => upd_other _ _ _ hk
  have evo : Evo w' g' w' g2 := ⟨fun b hb => ⟨hb, rfl⟩, fun k hk => ⟨.inl hk, hold k (fun hc => hU (hc ▸ hk))⟩⟩
  have hlen : ((xs.take n).map fun r => r.getD e.dflt).length = n := by simp; omega
  have hblk : ∀ b, ablk (.slice A3 n c3) = some b → ablk (g'.anch id) = some b := fun b hb => by rw [f1]; cases A3 <;> first | exact hb | simp [ablk] at hb
  have hnew : RO C w' g2 (fresh + 7) (.arr te e ((xs.take n).map fun r => r.getD e.dflt)) := by
    obtain ⟨p0, ⟨p1, p2⟩ | ⟨blk, m, cur, p1, p2, p3, p4, p5, p6, p7⟩⟩ := hO
    · rw [f1] at p1
      simp at p1
      subst p2
      obtain ⟨rfl, rfl, rfl⟩ := p1
      have hn0 : n = 0 := by omega
      subst hn0
      exact ⟨[], ⟨by simp, .inl ⟨hanch, by simp⟩⟩, by simp [reps], p0, fun b hb => by rw [hanch] at hb; simp [ablk] at hb⟩
    · rw [f1] at p1
      simp at p1
      obtain ⟨rfl, rfl, hc3⟩ := p1
      have hnx : n * e.cells ≤ xs.length * e.cells := mul_len (by omega)
      have hr := rawRep_all (rawRep_take p6 n) (by rw [List.length_take, List.length_take, Array.length_toList, p5, Nat.min_eq_left hnx, Nat.min_eq_left (by omega)]) hall
      exact ⟨cur.toList.take (n * e.cells), ⟨by rw [List.length_take, Array.length_toList, p5, Nat.min_eq_left hnx, hlen], .inr ⟨blk, xs.length, cur, by rw [hanch, hlen, hc3], Nat.zero_le _, p2, by omega, p4, p5, by rw [hlen]⟩⟩, hr, p0, fun b hb => by
        rw [hanch] at hb; simp [ablk] at hb; subst hb; exact p7⟩
  have look : ∀ k o, lookN ((fresh + 7, Obj.arr te e ((xs.take n).map fun r => r.getD e.dflt)) :: delObj h id) k = some o → (k = fresh + 7 ∧ o = .arr te e ((xs.take n).map fun r => r.getD e.dflt)) ∨ (k ≠ fresh + 7 ∧ k ≠ id ∧ lookN h k = some o) := fun k o hk => by
    simp only [lookN] at hk
    cases hb : Nat.beq (fresh + 7) k
    · rw [hb] at hk
      have hk : lookN (delObj h id) k = some o := hk
      rw [lookN_delObj] at hk
      by_cases hid : k = id
      · rw [if_pos hid] at hk; cases hk
      · rw [if_neg hid] at hk
        exact .inr ⟨fun hc => by subst hc; simp at hb, hid, hk⟩
    · rw [hb] at hk
      simp only [Option.some.injEq] at hk
      exact .inl ⟨(Nat.eq_of_beq_eq_true hb).symm, hk.symm⟩
  refine ⟨g2, ⟨⟨W.rel.keep, W.rel.size, W.rel.os, W.rel.tape, W.rel.output, W.rel.F, W.rel.Fin, evo.pin W.rel.pin, W.rel.lam, fun k o hk => ?_, fun k1 o1 k2 o2 b h1 h2 m1 m2 b1 b2 => ?_⟩, ?_, ?_, fun k hk => ?_⟩⟩
  · rcases look k o hk with ⟨rfl, rfl⟩ | ⟨h3, h4, h5⟩
    · exact ⟨.inr rfl, hnew⟩
    · obtain ⟨q1, q2⟩ := W.rel.obj k o h5
      exact ⟨.inl q1, RO_mono q1 q2 evo (fun b hm hb => ⟨rfl, (RO_block q2 hm hb).2.2⟩)⟩
  · rcases look k1 o1 h1 with ⟨rfl, rfl⟩ | ⟨a1, a2, a3⟩ <;> rcases look k2 o2 h2 with ⟨rfl, rfl⟩ | ⟨c1, c2, c3⟩
    · rfl
    · exfalso
      rw [hanch] at b1
      rw [hold _ c1] at b2
      exact c2 (W.rel.sep _ _ _ _ b ho c3 rfl m2 (hblk b b1) b2).symm
    · exfalso
      rw [hanch] at b2
      rw [hold _ a1] at b1
      exact a2 (W.rel.sep _ _ _ _ b a3 ho m1 rfl b1 (hblk b b2))
    · rw [hold _ a1] at b1
      rw [hold _ c1] at b2
      exact W.rel.sep _ _ _ _ b a3 c3 m1 m2 b1 b2
  · exact ⟨fun b hb => ⟨(W.evo.F b hb).1, (W.evo.F b hb).2⟩, fun k hk => ⟨.inl (W.evo.A k hk).1, (hold k (fun hc => hU (hc ▸ (W.evo.A k hk).1))).trans (W.evo.A k hk).2⟩⟩
  · simp only [RV]
    exact ⟨.inr rfl, hanch.symm, _, _, _, rfl⟩
  · rcases hk with hk | rfl
    · exact W.U k hk
    · exact .inr ⟨by omega, by omega⟩
theorem opn_ok {P : Program} (hT : TabOk P T) (hS : SpecsOk P S) (hmix : P.follows .mixedOrders = true) {f : FuncId} {fn : Func} (hf : P.funcs[f]? = some fn)
    (hok : (match fn.body with | some c => codeOk fn.ntmps c | none => false) = true) : SpecOk P f (opn T S keep fn) := by
  refine ⟨fun C w g h fresh args vals c v news hP R hf hv hs hc => by simp [opn] at hs, fun C w g h fresh args vals c v h' hP R hf hv hs hc => by simp [opn] at hs, fun C w g h fresh args vals K hP R hfr hub hv hs => ?_⟩
  simp only [opn, opnK] at hs
  split at hs
  rotate_left
  · exact hs.elim
  rename_i id rest
  split at hs
  rotate_left
  · exact hs.elim
  rename_i te e xs ho
  obtain ⟨hU, hO⟩ := R.obj id _ ho
  obtain ⟨kk, hO2, hmax, A, n, c0, hav, hA, hc0, hn0⟩ := RO_raw hO
  have hs := (hs kk hmax).out
  rw [forceN_eq, forceH_eq] at hs
  have R2 := R.opened ho rfl hO2
  have hv2 : RVs C w g (.vw id e 0 xs.length true :: rest) vals := by
    simp only [RVs] at hv ⊢
    obtain ⟨x, us, rfl, h1, h2⟩ := hv
    refine ⟨x, us, rfl, ?_, h2⟩
    simp only [RV] at h1 ⊢
    obtain ⟨_, h1, _⟩ := h1
    exact ⟨hU, A, n, c0, A, c0, hav, hA, by omega, by rw [h1, hav, hn0], by omega, by omega, fun _ => by omega, .inr (by cases A <;> simp [Addr.add])⟩
  refine (inl_k hT hS hmix hf hok hP R2 hfr hub hv2 hs).mono fun e w' ⟨x, g', v, h', h1, h2, h3, h4⟩ => ?_
  unfold shutK at h2
  split at h2
  · split at h2
    · rename_i ho'
      obtain ⟨k1, k2⟩ := h2
      have k2 := k2.out
      rw [forceH_eq] at k2
      obtain ⟨g2, W⟩ := closed h3 h4 hfr ho' k1.out
      exact ⟨x, g2, _, _, h1, k2, W⟩
    · exact h2.elim
  · exact ⟨x, g', v, h', h1, h2, h3⟩
end
end Go.Eng
