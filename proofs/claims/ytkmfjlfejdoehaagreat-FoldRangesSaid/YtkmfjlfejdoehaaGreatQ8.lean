import Derived.Shelf.Sort.Plain
import Derived.Test.YtkmfjlfejdoehaaGreatProg
import Derived.Test.YtkmfjlfejdoehaaGreatTab
import Derived.Test.YtkmfjlfejdoehaaGreatEng4
import Derived.Test.YtkmfjlfejdoehaaGreatEng5
import Derived.Test.YtkmfjlfejdoehaaGreatQ7
/- Texts, one behind the other. -/
namespace Go.Proofs.YtkmfjlfejdoehaaGreat
open Go.Proofs Go.Shelf
def Tryz.lays190_ren : Go.Shelf.Ren := ⟨fun | 190 => 142 | 125 => 194 | 258 => 193 | 128 => 235 | 129 => 236 | 302 => 226 | 303 => 227 | 304 => 228 | 305 => 229 | 306 => 230 | 307 => 231 | 308 => 232 | 309 => 233 | 310 => 234 | 333 => 247 | 329 => 248 | 330 => 249 | 334 => 250 | 335 => 251 | 336 => 252 | 344 => 256 | n => n, fun | 31 => 82 | 9 => 9 | 3 => 3 | 46 => 179 | 0 => 0 | 51 => 259 | 53 => 187 | 4 => 4 | 183 => 252 | 182 => 251 | 131 => 114 | 5 => 5 | 218 => 268 | 222 => 272 | 228 => 276 | 229 => 277 | n => n, fun | n => n⟩
theorem lays190 : Go.Proofs.Lays.n190 Tryz.prog Tryz.lays190_ren := {
  mixed := by kernel_rfl
  f125 := Tryz.func194.trans (congrArg some (by kernel_rfl))
  f128 := Tryz.func235.trans (congrArg some (by kernel_rfl))
  f129 := Tryz.func236.trans (congrArg some (by kernel_rfl))
  f190 := Tryz.func142.trans (congrArg some (by kernel_rfl))
  f258 := Tryz.func193.trans (congrArg some (by kernel_rfl))
  f302 := Tryz.func226.trans (congrArg some (by kernel_rfl))
  f303 := Tryz.func227.trans (congrArg some (by kernel_rfl))
  f304 := Tryz.func228.trans (congrArg some (by kernel_rfl))
  f305 := Tryz.func229.trans (congrArg some (by kernel_rfl))
  f306 := Tryz.func230.trans (congrArg some (by kernel_rfl))
  f307 := Tryz.func231.trans (congrArg some (by kernel_rfl))
  f308 := Tryz.func232.trans (congrArg some (by kernel_rfl))
  f309 := Tryz.func233.trans (congrArg some (by kernel_rfl))
  f310 := Tryz.func234.trans (congrArg some (by kernel_rfl))
  f329 := Tryz.func248.trans (congrArg some (by kernel_rfl))
  f330 := Tryz.func249.trans (congrArg some (by kernel_rfl))
  f333 := Tryz.func247.trans (congrArg some (by kernel_rfl))
  f334 := Tryz.func250.trans (congrArg some (by kernel_rfl))
  f335 := Tryz.func251.trans (congrArg some (by kernel_rfl))
  f336 := Tryz.func252.trans (congrArg some (by kernel_rfl))
  f344 := Tryz.func256.trans (congrArg some (by kernel_rfl))
  t0 := Tryz.underlying0
  a0 := Tryz.isAgg0
  z0 := Tryz.sizeOf0
  v0 := Tryz.zeroValue0
  t3 := Tryz.underlying3
  a3 := Tryz.isAgg3
  z3 := Tryz.sizeOf3
  v3 := Tryz.zeroValue3
  t4 := Tryz.underlying4
  a4 := Tryz.isAgg4
  z4 := Tryz.sizeOf4
  v4 := Tryz.zeroValue4
  t5 := Tryz.underlying5
  a5 := Tryz.isAgg5
  z5 := Tryz.sizeOf5
  v5 := Tryz.zeroValue5
  t9 := Tryz.underlying9
  a9 := Tryz.isAgg9
  z9 := Tryz.sizeOf9
  v9 := Tryz.zeroValue9
  t31 := Tryz.underlying82
  a31 := Tryz.isAgg82
  z31 := Tryz.sizeOf82
  v31 := Tryz.zeroValue82
  t46 := Tryz.underlying179
  a46 := Tryz.isAgg179
  z46 := Tryz.sizeOf179
  v46 := Tryz.zeroValue179
  t51 := Tryz.underlying259
  a51 := Tryz.isAgg259
  z51 := Tryz.sizeOf259
  v51 := Tryz.zeroValue259
  t53 := Tryz.underlying187
  a53 := Tryz.isAgg187
  z53 := Tryz.sizeOf187
  v53 := Tryz.zeroValue187
  t131 := Tryz.underlying114
  a131 := Tryz.isAgg114
  z131 := Tryz.sizeOf114
  v131 := Tryz.zeroValue114
  t182 := Tryz.underlying251
  a182 := Tryz.isAgg251
  z182 := Tryz.sizeOf251
  v182 := Tryz.zeroValue251
  t183 := Tryz.underlying252
  a183 := Tryz.isAgg252
  z183 := Tryz.sizeOf252
  v183 := Tryz.zeroValue252
  t218 := Tryz.underlying268
  a218 := Tryz.isAgg268
  z218 := Tryz.sizeOf268
  v218 := Tryz.zeroValue268
  t222 := Tryz.underlying272
  a222 := Tryz.isAgg272
  z222 := Tryz.sizeOf272
  v222 := Tryz.zeroValue272
  t228 := Tryz.underlying276
  a228 := Tryz.isAgg276
  z228 := Tryz.sizeOf276
  v228 := Tryz.zeroValue276
  t229 := Tryz.underlying277
  a229 := Tryz.isAgg277
  z229 := Tryz.sizeOf277
  v229 := Tryz.zeroValue277 }
end Go.Proofs.YtkmfjlfejdoehaaGreat

set_option linter.unusedVariables false
set_option linter.unusedSimpArgs false
set_option maxRecDepth 8000
set_option maxHeartbeats 4000000
namespace Go.Proofs.YtkmfjlfejdoehaaGreat
open Go.Eng
theorem fSort : FnOk Tryz.prog 142 := ⟨_, Tryz.func142, by decide, rfl⟩
noncomputable def iSort : Eng.Spec := sortSpec .str sortStr
theorem pSort : SpecOk Tryz.prog 142 iSort := sortStr_ok lays190 rfl
def sCompact : OSpec := ⟨9, .str, [], fun xs _ => xs.length ≤ 1000000, fun xs _ => compL (α := List UInt8) xs⟩
theorem fCompact : FnOk Tryz.prog 143 := ⟨_, Tryz.func143, by decide, rfl⟩
theorem pCompact : SpecOk Tryz.prog 143 sCompact.spec := by
  refine oOk (T := tab) (S := (spOf [])) (keep := k143) (by kernel_rfl) tabOk spNil (by kernel_rfl) Tryz.func143 (by kernel_rfl) (by decide) (by decide) fun xs ys k hg hgt hmax hp => ?_
  obtain ⟨⟩ := ys
  change List (List UInt8) at xs
  change xs.length ≤ 1000000 at hp
  clear hg hgt
  show vfun tab _ k143 Tryz.f143 [.vw 0 .str 0 xs.length true] [(0, .raw 9 .str (xs.map some ++ List.replicate k (none : Option (Ty.den .str))))] _
  refine Ev.out ?_
  repeat' (first | ((with_reducible refine Ev.mk ?_); conv => whnf) | (with_reducible refine And.intro ?_ ?_) | (intro h))
  all_goals (try simp only [decide_eq_true_eq, decide_eq_false_iff_not, beq_iff_eq, bne_iff_ne, beq_eq_false_iff_ne, bne_eq_false_iff_eq, Int.toNat_natCast, ge_iff_le, gt_iff_lt, Bool.not_eq_true', Bool.not_eq_false', Int.not_lt, Int.not_le, ne_eq] at *)
  all_goals (try dsimp only [Ty.den, Ty.dflt, .str] at *)
  all_goals (try simp only [eq4, ne4, eq3, ne3, eq2, ne2, Prod.eta, List.length_cons, List.length_nil, List.length_append, Nat.zero_add] at *)
  all_goals (try simp (disch := omega) only [wrap64] at *)
  all_goals (try simp only [Int.sub_zero, Int.toNat_natCast, Int.toNat_sub, Int.toNat_zero, Nat.zero_add, toNat_add', toNat_addsub, toNat_subadd, List.length_map, List.length_append, List.length_replicate, List.length_take, List.length_drop] at *)
  · refine Leaf.mk (readO_vw.trans (congrArg some (?_ : _ = (compL xs).map some)))
    rw [compL_short (by omega)]
    refine (raw_take (Nat.le_refl _)).trans ?_
    rw [take_all (Nat.le_refl _)]
  have hrg : ∀ i, i < xs.length → (xs.map some ++ List.replicate k none).getD i none = some (xs.getD i []) := fun i h => raw_getD [] h
  refine LoopVC.on (fun n : Nat => [(3, .i .i64 n)]) (fun _ => []) (fun n => 1 ≤ n ∧ n ≤ xs.length ∧ compL (xs.take n) = xs.take n) (fun n => xs.length - n) 1 rfl ⟨by omega, by omega, compL_short (by rw [List.length_take]; omega)⟩ ?_
  intro n ⟨hn1, hn, he⟩
  repeat' (first | ((with_reducible refine Ev.mk ?_); conv => whnf) | (with_reducible refine And.intro ?_ ?_) | (intro h))
  all_goals (try simp only [decide_eq_true_eq, decide_eq_false_iff_not, beq_iff_eq, bne_iff_ne, beq_eq_false_iff_ne, bne_eq_false_iff_eq, Int.toNat_natCast, ge_iff_le, gt_iff_lt, Bool.not_eq_true', Bool.not_eq_false', Int.not_lt, Int.not_le, ne_eq] at *)
  all_goals (try dsimp only [Ty.den, Ty.dflt, .str] at *)
  all_goals (try simp only [eq4, ne4, eq3, ne3, eq2, ne2, Prod.eta, List.length_cons, List.length_nil, List.length_append, Nat.zero_add] at *)
  all_goals (try simp (disch := omega) only [wrap64] at *)
  all_goals (try simp only [Int.sub_zero, Int.toNat_natCast, Int.toNat_sub, Int.toNat_zero, Nat.zero_add, toNat_add', toNat_addsub, toNat_subadd, List.length_map, List.length_append, List.length_replicate, List.length_take, List.length_drop] at *)
  all_goals try rw [show ((n : Int) - 1).toNat = n - 1 by omega] at *
  all_goals try rw [hrg n (by omega), hrg (n - 1) (by omega)] at *
  all_goals try rw [hrg n (by omega)] at *
  all_goals try rw [hrg (n - 1) (by omega)] at *
  all_goals try first | exact leafDraw (by kernel_rfl) | exact Leaf.mk trivial | (refine Leaf.mk ?_; omega) | (refine Leaf.mk ?_; unfold maxLen; omega)
  all_goals try simp only [Option.getD_some] at *
  all_goals try exact Leaf.mk rfl
  rotate_left
  · refine Leaf.mk ⟨n + 1, rfl, ⟨by omega, by omega, ?_⟩, by omega⟩
    rw [compL_ne [] hn1 (by omega) h, he, take_at [] (by omega)]
  · refine Leaf.mk (readO_vw.trans (congrArg some (?_ : _ = (compL xs).map some)))
    rw [take_all (by omega)] at he
    rw [he]
    refine (raw_take (Nat.le_refl _)).trans ?_
    rw [take_all (Nat.le_refl _)]
  refine LoopVC.on (fun a : Nat × Nat × List (Option (List UInt8)) => [(3, .i .i64 a.1), (5, .i .i64 ((a.2.1 - n : Nat) : Int))]) (fun a => [(0, .raw 9 .str a.2.2)]) (fun a => n + 1 ≤ a.2.1 ∧ CF xs k a.2.2 a.1 a.2.1) (fun a => xs.length - a.2.1) (n, n + 1, xs.map some ++ List.replicate k none) ?_ ⟨Nat.le_refl _, CF.first [] hn1 (by omega) he h⟩ ?_
  · show _ = _
    rw [show n + 1 - n = 1 by omega]; rfl
  intro ⟨i, j, zs⟩ ⟨hj, q⟩
  dsimp only at hj q ⊢
  have hlt := q.lt
  have hle := q.le
  have hzl := q.len
  have hg1 := fun h => q.get [] (m := j) (by omega) h
  have hg2 := fun h => q.get [] (m := j - 1) (Nat.le_refl _) h
  repeat' (first | ((with_reducible refine Ev.mk ?_); conv => whnf) | (with_reducible refine And.intro ?_ ?_) | (intro h))
  all_goals (try simp only [decide_eq_true_eq, decide_eq_false_iff_not, beq_iff_eq, bne_iff_ne, beq_eq_false_iff_ne, bne_eq_false_iff_eq, Int.toNat_natCast, ge_iff_le, gt_iff_lt, Bool.not_eq_true', Bool.not_eq_false', Int.not_lt, Int.not_le, ne_eq] at *)
  all_goals (try dsimp only [Ty.den, Ty.dflt, .str] at *)
  all_goals (try simp only [eq4, ne4, eq3, ne3, eq2, ne2, Prod.eta, List.length_cons, List.length_nil, List.length_append, Nat.zero_add] at *)
  all_goals (try simp (disch := omega) only [wrap64] at *)
  all_goals (try simp only [Int.sub_zero, Int.toNat_natCast, Int.toNat_sub, Int.toNat_zero, Nat.zero_add, toNat_add', toNat_addsub, toNat_subadd, List.length_map, List.length_append, List.length_replicate, List.length_take, List.length_drop] at *)
  all_goals try rw [show n + (j - n) = j by omega] at *
  all_goals try rw [show n + (((j - n : Nat) : Int) - 1).toNat = j - 1 by omega] at *
  all_goals try rw [hg1 (by omega)] at *
  all_goals try rw [hg2 (by omega)] at *
  all_goals try simp only [Option.getD_some, Option.isSome_some] at *
  all_goals try first | exact leafDraw (by kernel_rfl) | exact Leaf.mk trivial | (refine Leaf.mk ?_; omega) | (refine Leaf.mk ?_; unfold maxLen; omega)
  all_goals try first
    | exact Leaf.mk rfl
    | (refine Leaf.mk ⟨(i + 1, j + 1, zs.set i (some (xs.getD j []))), ?_, ⟨by dsimp only; omega, q.new [] (by omega) ‹¬ _›⟩, by dsimp only; omega⟩
       dsimp only
       rw [show j + 1 - n = (j - n) + 1 by omega]; rfl)
    | (refine Leaf.mk ⟨(i, j + 1, zs), ?_, ⟨by dsimp only; omega, q.same [] (by omega) h⟩, by dsimp only; omega⟩
       dsimp only
       rw [show j + 1 - n = (j - n) + 1 by omega]; rfl)
  obtain rfl : j = xs.length := by omega
  refine Leaf.mk (readO_vw.trans (congrArg some (?_ : _ = (compL xs).map some)))
  change List.take (α := Option (List UInt8)) _ _ = _
  rw [List.append_assoc, List.take_append_of_le_length (by rw [List.length_take]; omega), List.take_take, Nat.min_self]
  exact q.fin
end Go.Proofs.YtkmfjlfejdoehaaGreat

set_option linter.unusedVariables false
set_option linter.unusedSimpArgs false
namespace Go.Proofs.YtkmfjlfejdoehaaGreat
open Go.Eng
def kept (P : List Ver) : List Ver := match P.getLast? with
  | none => []
  | some v => if v.2.2.1 = true then [] else [v]
end Go.Proofs.YtkmfjlfejdoehaaGreat

set_option linter.unusedVariables false
set_option linter.unusedSimpArgs false
set_option maxRecDepth 8000
set_option maxHeartbeats 4000000
namespace Go.Proofs.YtkmfjlfejdoehaaGreat
open Go.Eng
abbrev MsgT : Ty := .pair (.int .u8) (.pair .str (.pair (.int .i64) (.pair (.int .i64) (.pair .bool .str))))
abbrev Msg := Int × List UInt8 × Int × Int × Bool × List UInt8
abbrev msg0 : Msg := (0, [], 0, 0, false, [])
abbrev FldT : Ty := .pair .bool (.pair .bool .bool)
def ofK (k : Int) : Bool × Bool × Bool := (decide (k = 0), decide (k = 0 ∨ k = 1 ∨ k = 2), decide (k = 1 ∨ k = 3))
def sOf : PSpec := ⟨[.d (.int .u8)], [⟨true, [.d FldT]⟩], fun _ => True, fun x => ((ofK x.1, ()), ())⟩
theorem fOf : FnOk Tryz.prog 126 := ⟨_, Tryz.func126, by decide, rfl⟩
theorem pOf : PSound Tryz.prog 126 sOf := by
  refine psound (T := tab) (S := (spOf [])) (keep := k126) (by kernel_rfl) tabOk spNil (by kernel_rfl) Tryz.func126 (by kernel_rfl) (by decide) fun xs hg hp => ?_
  obtain ⟨k, ⟨⟩⟩ := xs
  change Int at k
  show vfun tab _ k126 Tryz.f126 [.i .u8 k] [] _
  refine Ev.out ?_
  repeat' (first | ((with_reducible refine Ev.mk ?_); conv => whnf) | (with_reducible refine And.intro ?_ ?_) | (intro h))
  all_goals (try simp only [decide_eq_true_eq, decide_eq_false_iff_not, beq_iff_eq, bne_iff_ne, beq_eq_false_iff_ne, bne_eq_false_iff_eq, Int.toNat_natCast, ge_iff_le, gt_iff_lt, Bool.not_eq_true', Bool.not_eq_false', Int.not_lt, Int.not_le, ne_eq] at *)
  all_goals (try dsimp only [Ty.den, Ty.dflt, MsgT] at *)
  all_goals (try simp only [eq4, ne4, eq3, ne3, eq2, ne2, Prod.eta, List.length_cons, List.length_nil, List.length_append, Nat.zero_add] at *)
  all_goals (try simp (disch := omega) only [wrap64] at *)
  all_goals
    refine Leaf.mk (ret1 (show _ = ofK k from ?_))
    unfold ofK
    simp_all
def sMIn : PSpec := sIn
theorem fMIn : FnOk Tryz.prog 127 := ⟨_, Tryz.func127, by decide, rfl⟩
theorem pMIn : PSound Tryz.prog 127 sMIn := by
  refine psound (T := tab) (S := (spOf [])) (keep := k127) (by kernel_rfl) tabOk spNil (by kernel_rfl) Tryz.func127 (by kernel_rfl) (by decide) fun xs hg hp => ?_
  obtain ⟨n, ⟨⟩⟩ := xs
  change Int at n
  show vfun tab _ k127 Tryz.f127 [.i .i64 n] [] _
  refine Ev.out ?_
  repeat' (first | ((with_reducible refine Ev.mk ?_); conv => whnf) | (with_reducible refine And.intro ?_ ?_) | (intro h))
  all_goals (try simp only [decide_eq_true_eq, decide_eq_false_iff_not, beq_iff_eq, bne_iff_ne, beq_eq_false_iff_ne, bne_eq_false_iff_eq, Int.toNat_natCast, ge_iff_le, gt_iff_lt, Bool.not_eq_true', Bool.not_eq_false', Int.not_lt, Int.not_le, ne_eq] at *)
  all_goals (try dsimp only [Ty.den, Ty.dflt, VerT] at *)
  all_goals (try simp only [eq4, ne4, eq3, ne3, eq2, ne2, Prod.eta, List.length_cons, List.length_nil, List.length_append, Nat.zero_add] at *)
  all_goals (try simp (disch := omega) only [wrap64] at *)
  all_goals
    refine Leaf.mk (ret1 (show _ = inB n from ?_))
    simp only [inB]
    first
    | (rw [decide_eq_false (p := 0 ≤ n ∧ n ≤ 1099511627776) (by omega)]; done)
    | (congr 1; simp only [eq_iff_iff]; omega)
def mForm (m : Msg) : Prop := (m.1 = 0 ∨ (m.2.2.2.2.1 = false ∧ m.2.1.length = 0 ∧ m.2.2.2.2.2.length = 0)) ∧ (m.1 = 3 → m.2.2.1 = 0) ∧ (m.1 = 0 ∨ m.1 = 2 → m.2.2.2.1 = 0) ∧ (m.2.2.2.2.1 = false ∨ m.2.2.2.2.2.length = 0)
instance (m : Msg) : Decidable (mForm m) := by unfold mForm; infer_instance
def mcheck (m : Msg) : Int := if 3 < m.1 then 13 else if ¬ mForm m then 4 else if ¬ (inB m.2.2.1 = true ∧ inB m.2.2.2.1 = true) ∨ (m.1 = 1 ∧ m.2.2.2.1 = 0) then 9 else if 16 < m.2.1.length ∨ 24 < m.2.2.2.2.2.length then 5 else 0
def sMCheck : PSpec := ⟨[.d MsgT], [⟨false, [.d (.int .i64)]⟩], fun _ => True, fun x => ((mcheck x.1, ()), ())⟩
theorem fMCheck : FnOk Tryz.prog 65 := ⟨_, Tryz.func65, by decide, rfl⟩
theorem pMCheck : PSound Tryz.prog 65 sMCheck := by
  refine psound (T := tab) (S := (spOf [(126, sOf.spec (lsOf [])), (127, sMIn.spec (lsOf []))])) (keep := k65) (by kernel_rfl) tabOk (spCons (pOk pOf fOf (by decide) lsNil) (spCons (pOk pMIn fMIn (by decide) lsNil) spNil)) (by kernel_rfl) Tryz.func65 (by kernel_rfl) (by decide) fun xs hg hp => ?_
  obtain ⟨⟨kind, key, txn, ts, gone, val⟩, ⟨⟩⟩ := xs
  obtain ⟨⟨hk, hkl, htx, hts, -, hvl⟩, -⟩ := hg
  change List UInt8 at key
  change List UInt8 at val
  change Int at kind txn ts
  change Bool at gone
  change key.length ≤ _ at hkl
  change val.length ≤ _ at hvl
  have hkl := len63 hkl
  have hvl := len63 hvl
  have hk := bdu8 hk
  show vfun tab _ k65 Tryz.f65 [.agg [.i .u8 kind, .s key, .i .i64 txn, .i .i64 ts, .b gone, .s val]] [] _
  refine Ev.out ?_
  repeat' (first | ((with_reducible refine Ev.mk ?_); conv => whnf) | (with_reducible refine And.intro ?_ ?_) | (intro h))
  all_goals (try simp only [decide_eq_true_eq, decide_eq_false_iff_not, beq_iff_eq, bne_iff_ne, beq_eq_false_iff_ne, bne_eq_false_iff_eq, Int.toNat_natCast, ge_iff_le, gt_iff_lt, Bool.not_eq_true', Bool.not_eq_false', Int.not_lt, Int.not_le, ne_eq] at *)
  all_goals (try dsimp only [Ty.den, Ty.dflt, MsgT, sOf, ofK, sMIn, sIn] at *)
  all_goals (try simp only [eq4, ne4, eq3, ne3, eq2, ne2, Prod.eta, List.length_cons, List.length_nil, List.length_append, Nat.zero_add] at *)
  all_goals (try simp (disch := omega) only [wrap64] at *)
  all_goals try first | exact leafDraw (by kernel_rfl) | exact Leaf.mk trivial | (refine Leaf.mk ?_; omega) | (refine Leaf.mk ?_; unfold maxLen; omega)
  all_goals try simp only [← List.length_eq_zero_iff] at *
  all_goals try simp only [inB, decide_eq_true_eq, decide_eq_false_iff_not] at *
  all_goals
    refine Leaf.mk (ret1 (show (_ : Int) = mcheck (kind, key, txn, ts, gone, val) from ?_))
    simp only [mcheck, mForm, inB, decide_eq_true_eq]
    cases gone
  all_goals try simp only [reduceCtorEq, false_and, true_and, and_true, or_true, true_or, false_or, or_false, not_true_eq_false, not_false_eq_true] at *
  all_goals
    repeat' split
  all_goals first | rfl | (exfalso; omega)
def sMCheckR : PSpec := sMCheck
def onlyF (m : Msg) : Msg := if m.1 = 0 then (m.1, m.2.1, m.2.2.1, 0, m.2.2.2.2.1, if m.2.2.2.2.1 = true then [] else m.2.2.2.2.2) else if m.1 = 1 then (m.1, [], m.2.2.1, m.2.2.2.1, false, []) else if m.1 = 2 then (m.1, [], m.2.2.1, 0, false, []) else if m.1 = 3 then (m.1, [], 0, m.2.2.2.1, false, []) else (m.1, [], 0, 0, false, [])
def sOnly : PSpec := ⟨[.d MsgT], [⟨true, [.d MsgT]⟩], fun _ => True, fun x => ((onlyF x.1, ()), ())⟩
theorem fOnly : FnOk Tryz.prog 134 := ⟨_, Tryz.func134, by decide, rfl⟩
theorem pOnly : PSound Tryz.prog 134 sOnly := by
  refine psound (T := tab) (S := (spOf [])) (keep := k134) (by kernel_rfl) tabOk spNil (by kernel_rfl) Tryz.func134 (by kernel_rfl) (by decide) fun xs hg hp => ?_
  obtain ⟨⟨kind, key, txn, ts, gone, val⟩, ⟨⟩⟩ := xs
  obtain ⟨⟨hk, hkl, htx, hts, -, hvl⟩, -⟩ := hg
  change List UInt8 at key
  change List UInt8 at val
  change Int at kind txn ts
  change Bool at gone
  change key.length ≤ _ at hkl
  change val.length ≤ _ at hvl
  have hkl := len63 hkl
  have hvl := len63 hvl
  have hk := bdu8 hk
  show vfun tab _ k134 Tryz.f134 [.agg [.i .u8 kind, .s key, .i .i64 txn, .i .i64 ts, .b gone, .s val]] [] _
  refine Ev.out ?_
  repeat' (first | ((with_reducible refine Ev.mk ?_); conv => whnf) | (with_reducible refine And.intro ?_ ?_) | (intro h))
  all_goals (try simp only [decide_eq_true_eq, decide_eq_false_iff_not, beq_iff_eq, bne_iff_ne, beq_eq_false_iff_ne, bne_eq_false_iff_eq, Int.toNat_natCast, ge_iff_le, gt_iff_lt, Bool.not_eq_true', Bool.not_eq_false', Int.not_lt, Int.not_le, ne_eq] at *)
  all_goals (try dsimp only [Ty.den, Ty.dflt, MsgT] at *)
  all_goals (try simp only [eq4, ne4, eq3, ne3, eq2, ne2, Prod.eta, List.length_cons, List.length_nil, List.length_append, Nat.zero_add] at *)
  all_goals (try simp (disch := omega) only [wrap64] at *)
  all_goals try first | exact leafDraw (by kernel_rfl) | exact Leaf.mk trivial | (refine Leaf.mk ?_; omega) | (refine Leaf.mk ?_; unfold maxLen; omega)
  all_goals
    refine Leaf.mk (ret1 (show (_ : Msg) = onlyF (kind, key, txn, ts, gone, val) from ?_))
    unfold onlyF
    simp_all
section
variable {α β γ δ ε ζ : Type} [BEq α] [LawfulBEq α] [BEq β] [LawfulBEq β] [BEq γ] [LawfulBEq γ] [BEq δ] [LawfulBEq δ] [BEq ε] [LawfulBEq ε] [BEq ζ] [LawfulBEq ζ]
theorem eq6 {x y : α × β × γ × δ × ε × ζ} : (x.1 == y.1 && (x.2.1 == y.2.1 && (x.2.2.1 == y.2.2.1 && (x.2.2.2.1 == y.2.2.2.1 && (x.2.2.2.2.1 == y.2.2.2.2.1 && x.2.2.2.2.2 == y.2.2.2.2.2))))) = true ↔ x = y := by
  obtain ⟨a, b, e, g, i, j⟩ := x; obtain ⟨c, d, f, k, l, m⟩ := y
  simp
theorem ne6 {x y : α × β × γ × δ × ε × ζ} : (x.1 == y.1 && (x.2.1 == y.2.1 && (x.2.2.1 == y.2.2.1 && (x.2.2.2.1 == y.2.2.2.1 && (x.2.2.2.2.1 == y.2.2.2.2.1 && x.2.2.2.2.2 == y.2.2.2.2.2))))) = false ↔ ¬ x = y := by
  rw [← eq6, Bool.not_eq_true]
end
theorem only_iff {m : Msg} (h0 : 0 ≤ m.1) (h3 : m.1 ≤ 3) : m = onlyF m ↔ mForm m := by
  obtain ⟨kind, key, txn, ts, gone, val⟩ := m
  dsimp only at h0 h3
  unfold onlyF mForm
  dsimp only
  simp only [List.length_eq_zero_iff]
  rcases (by omega : kind = 0 ∨ kind = 1 ∨ kind = 2 ∨ kind = 3) with rfl | rfl | rfl | rfl <;> cases gone <;> simp [Prod.ext_iff] <;> grind
theorem fMCheckR : FnOk Tryz.prog 70 := ⟨_, Tryz.func70, by decide, rfl⟩
theorem pMCheckR : PSound Tryz.prog 70 sMCheckR := by
  refine psound (T := tab) (S := (spOf [(134, sOnly.spec (lsOf []))])) (keep := k70) (by kernel_rfl) tabOk (spCons (pOk pOnly fOnly (by decide) lsNil) spNil) (by kernel_rfl) Tryz.func70 (by kernel_rfl) (by decide) fun xs hg hp => ?_
  obtain ⟨⟨kind, key, txn, ts, gone, val⟩, ⟨⟩⟩ := xs
  obtain ⟨⟨hk, hkl, htx, hts, -, hvl⟩, -⟩ := hg
  change List UInt8 at key
  change List UInt8 at val
  change Int at kind txn ts
  change Bool at gone
  change key.length ≤ _ at hkl
  change val.length ≤ _ at hvl
  have hkl := len63 hkl
  have hvl := len63 hvl
  have hk := bdu8 hk
  show vfun tab _ k70 Tryz.f70 [.agg [.i .u8 kind, .s key, .i .i64 txn, .i .i64 ts, .b gone, .s val]] [] _
  refine Ev.out ?_
  repeat' (first | ((with_reducible refine Ev.mk ?_); conv => whnf) | (with_reducible refine And.intro ?_ ?_) | (intro h))
  all_goals (try simp only [decide_eq_true_eq, decide_eq_false_iff_not, beq_iff_eq, bne_iff_ne, beq_eq_false_iff_ne, bne_eq_false_iff_eq, Int.toNat_natCast, ge_iff_le, gt_iff_lt, Bool.not_eq_true', Bool.not_eq_false', Int.not_lt, Int.not_le, ne_eq] at *)
  all_goals (try dsimp only [Ty.den, Ty.dflt, MsgT, sOnly] at *)
  all_goals (try simp only [eq4, ne4, eq3, ne3, eq2, ne2, Prod.eta, List.length_cons, List.length_nil, List.length_append, Nat.zero_add] at *)
  all_goals (try simp (disch := omega) only [wrap64] at *)
  all_goals try first | exact leafDraw (by kernel_rfl) | exact Leaf.mk trivial | (refine Leaf.mk ?_; omega) | (refine Leaf.mk ?_; unfold maxLen; omega)
  all_goals try (have h9 := (only_iff (m := (kind, key, txn, ts, gone, val)) hk.1 (by dsimp only; omega)).1 (eq6.1 ‹(_ && _) = true›); simp only [mForm] at h9)
  all_goals try (have h9 := (not_congr (only_iff (m := (kind, key, txn, ts, gone, val)) hk.1 (by dsimp only; omega))).1 (ne6.1 ‹(_ && _) = false›); simp only [mForm] at h9)
  all_goals try simp only [inB, decide_eq_true_eq, decide_eq_false_iff_not] at *
  all_goals
    refine Leaf.mk (ret1 (show (_ : Int) = mcheck (kind, key, txn, ts, gone, val) from ?_))
    simp only [mcheck, mForm, inB, decide_eq_true_eq]
    cases gone
  all_goals try simp only [reduceCtorEq, false_and, true_and, and_true, or_true, true_or, false_or, or_false, not_true_eq_false, not_false_eq_true] at *
  all_goals
    repeat' split
  all_goals first | rfl | (exfalso; omega)
end Go.Proofs.YtkmfjlfejdoehaaGreat

set_option linter.unusedVariables false
set_option linter.unusedSimpArgs false
set_option maxRecDepth 8000
set_option maxHeartbeats 4000000
namespace Go.Proofs.YtkmfjlfejdoehaaGreat
open Go.Eng
def wide (m : Msg) : Bool := decide (1 ≤ m.1 ∧ m.1 ≤ 3)
def sWide : PSpec := ⟨[.d MsgT], [⟨false, [.d .bool]⟩], fun _ => True, fun x => ((wide x.1, ()), ())⟩
def sWideR : PSpec := sWide
theorem fWide : FnOk Tryz.prog 108 := ⟨_, Tryz.func108, by decide, rfl⟩
theorem pWide : PSound Tryz.prog 108 sWide := by
  refine psound (T := tab) (S := (spOf [])) (keep := k108) (by kernel_rfl) tabOk spNil (by kernel_rfl) Tryz.func108 (by kernel_rfl) (by decide) fun xs hg hp => ?_
  obtain ⟨⟨kind, key, txn, ts, gone, val⟩, ⟨⟩⟩ := xs
  obtain ⟨⟨hk, -⟩, -⟩ := hg
  change List UInt8 at key
  change List UInt8 at val
  change Int at kind txn ts
  change Bool at gone
  have hk := bdu8 hk
  show vfun tab _ k108 Tryz.f108 [.agg [.i .u8 kind, .s key, .i .i64 txn, .i .i64 ts, .b gone, .s val]] [] _
  refine Ev.out ?_
  repeat' (first | ((with_reducible refine Ev.mk ?_); conv => whnf) | (with_reducible refine And.intro ?_ ?_) | (intro h))
  all_goals (try simp only [decide_eq_true_eq, decide_eq_false_iff_not, beq_iff_eq, bne_iff_ne, beq_eq_false_iff_ne, bne_eq_false_iff_eq, Int.toNat_natCast, ge_iff_le, gt_iff_lt, Bool.not_eq_true', Bool.not_eq_false', Int.not_lt, Int.not_le, ne_eq] at *)
  all_goals (try dsimp only [Ty.den, Ty.dflt, MsgT] at *)
  all_goals (try simp only [eq4, ne4, eq3, ne3, eq2, ne2, Prod.eta, List.length_cons, List.length_nil, List.length_append, Nat.zero_add] at *)
  all_goals (try simp (disch := omega) only [wrap64] at *)
  all_goals
    refine Leaf.mk (ret1 (show _ = wide (kind, key, txn, ts, gone, val) from ?_))
    unfold wide
    first
    | (rw [eq_comm, decide_eq_false_iff_not]; omega)
    | (rw [eq_comm, decide_eq_true_eq]; omega)
    | (congr 1; simp only [eq_iff_iff]; omega)
    | (rw [Bool.eq_iff_iff]; simp only [decide_eq_true_eq, beq_iff_eq]; omega)
theorem fWideR : FnOk Tryz.prog 110 := ⟨_, Tryz.func110, by decide, rfl⟩
theorem pWideR : PSound Tryz.prog 110 sWideR := by
  refine psound (T := tab) (S := (spOf [])) (keep := k110) (by kernel_rfl) tabOk spNil (by kernel_rfl) Tryz.func110 (by kernel_rfl) (by decide) fun xs hg hp => ?_
  obtain ⟨⟨kind, key, txn, ts, gone, val⟩, ⟨⟩⟩ := xs
  obtain ⟨⟨hk, -⟩, -⟩ := hg
  change List UInt8 at key
  change List UInt8 at val
  change Int at kind txn ts
  change Bool at gone
  have hk := bdu8 hk
  show vfun tab _ k110 Tryz.f110 [.agg [.i .u8 kind, .s key, .i .i64 txn, .i .i64 ts, .b gone, .s val]] [] _
  refine Ev.out ?_
  repeat' (first | ((with_reducible refine Ev.mk ?_); conv => whnf) | (with_reducible refine And.intro ?_ ?_) | (intro h))
  all_goals (try simp only [decide_eq_true_eq, decide_eq_false_iff_not, beq_iff_eq, bne_iff_ne, beq_eq_false_iff_ne, bne_eq_false_iff_eq, Int.toNat_natCast, ge_iff_le, gt_iff_lt, Bool.not_eq_true', Bool.not_eq_false', Int.not_lt, Int.not_le, ne_eq] at *)
  all_goals (try dsimp only [Ty.den, Ty.dflt, MsgT] at *)
  all_goals (try simp only [eq4, ne4, eq3, ne3, eq2, ne2, Prod.eta, List.length_cons, List.length_nil, List.length_append, Nat.zero_add] at *)
  all_goals (try simp (disch := omega) only [wrap64] at *)
  all_goals
    refine Leaf.mk (ret1 (show _ = wide (kind, key, txn, ts, gone, val) from ?_))
    unfold wide
    first
    | (rw [eq_comm, decide_eq_false_iff_not]; omega)
    | (rw [eq_comm, decide_eq_true_eq]; omega)
    | (congr 1; simp only [eq_iff_iff]; omega)
    | (rw [Bool.eq_iff_iff]; simp only [decide_eq_true_eq, beq_iff_eq]; omega)
def about (k : List UInt8) (m : Msg) : Bool := wide m || decide (m.1 = 0 ∧ m.2.1 = k)
def sAbout : PSpec := ⟨[.d MsgT, .d .str], [⟨false, [.d .bool]⟩], fun _ => True, fun x => ((about x.2.1 x.1, ()), ())⟩
def sAboutR : PSpec := sAbout
theorem fAbout : FnOk Tryz.prog 128 := ⟨_, Tryz.func128, by decide, rfl⟩
theorem pAbout : PSound Tryz.prog 128 sAbout := by
  refine psound (T := tab) (S := (spOf [(108, sWide.spec (lsOf []))])) (keep := k128) (by kernel_rfl) tabOk (spCons (pOk pWide fWide (by decide) lsNil) spNil) (by kernel_rfl) Tryz.func128 (by kernel_rfl) (by decide) fun xs hg hp => ?_
  obtain ⟨⟨kind, key, txn, ts, gone, val⟩, k, ⟨⟩⟩ := xs
  obtain ⟨⟨hk, -⟩, -⟩ := hg
  change List UInt8 at key
  change List UInt8 at val
  change Int at kind txn ts
  change Bool at gone
  have hk := bdu8 hk
  change List UInt8 at k
  show vfun tab _ k128 Tryz.f128 [.agg [.i .u8 kind, .s key, .i .i64 txn, .i .i64 ts, .b gone, .s val], .s k] [] _
  refine Ev.out ?_
  repeat' (first | ((with_reducible refine Ev.mk ?_); conv => whnf) | (with_reducible refine And.intro ?_ ?_) | (intro h))
  all_goals (try simp only [decide_eq_true_eq, decide_eq_false_iff_not, beq_iff_eq, bne_iff_ne, beq_eq_false_iff_ne, bne_eq_false_iff_eq, Int.toNat_natCast, ge_iff_le, gt_iff_lt, Bool.not_eq_true', Bool.not_eq_false', Int.not_lt, Int.not_le, ne_eq] at *)
  all_goals (try dsimp only [Ty.den, Ty.dflt, MsgT, sWide, sWideR] at *)
  all_goals (try simp only [eq4, ne4, eq3, ne3, eq2, ne2, Prod.eta, List.length_cons, List.length_nil, List.length_append, Nat.zero_add] at *)
  all_goals (try simp (disch := omega) only [wrap64] at *)
  all_goals try first | exact leafDraw (by kernel_rfl) | exact Leaf.mk trivial | (refine Leaf.mk ?_; omega) | (refine Leaf.mk ?_; unfold maxLen; omega)
  all_goals
    refine Leaf.mk (ret1 (show _ = about k (kind, key, txn, ts, gone, val) from ?_))
    unfold about
    dsimp only
    try rw [‹wide _ = false›]
    try rw [‹wide _ = true›]
    first
    | rfl
    | (rw [decide_eq_false (fun hc => by omega)]; rfl)
    | (rw [Bool.eq_iff_iff]; simp only [Bool.false_or, decide_eq_true_eq, beq_iff_eq]
       exact ⟨fun h => ⟨by assumption, h⟩, fun h => h.2⟩)
theorem fAboutR : FnOk Tryz.prog 135 := ⟨_, Tryz.func135, by decide, rfl⟩
theorem pAboutR : PSound Tryz.prog 135 sAboutR := by
  refine psound (T := tab) (S := (spOf [(110, sWideR.spec (lsOf []))])) (keep := k135) (by kernel_rfl) tabOk (spCons (pOk pWideR fWideR (by decide) lsNil) spNil) (by kernel_rfl) Tryz.func135 (by kernel_rfl) (by decide) fun xs hg hp => ?_
  obtain ⟨⟨kind, key, txn, ts, gone, val⟩, k, ⟨⟩⟩ := xs
  obtain ⟨⟨hk, -⟩, -⟩ := hg
  change List UInt8 at key
  change List UInt8 at val
  change Int at kind txn ts
  change Bool at gone
  have hk := bdu8 hk
  change List UInt8 at k
  show vfun tab _ k135 Tryz.f135 [.agg [.i .u8 kind, .s key, .i .i64 txn, .i .i64 ts, .b gone, .s val], .s k] [] _
  refine Ev.out ?_
  repeat' (first | ((with_reducible refine Ev.mk ?_); conv => whnf) | (with_reducible refine And.intro ?_ ?_) | (intro h))
  all_goals (try simp only [decide_eq_true_eq, decide_eq_false_iff_not, beq_iff_eq, bne_iff_ne, beq_eq_false_iff_ne, bne_eq_false_iff_eq, Int.toNat_natCast, ge_iff_le, gt_iff_lt, Bool.not_eq_true', Bool.not_eq_false', Int.not_lt, Int.not_le, ne_eq] at *)
  all_goals (try dsimp only [Ty.den, Ty.dflt, MsgT, sWide, sWideR] at *)
  all_goals (try simp only [eq4, ne4, eq3, ne3, eq2, ne2, Prod.eta, List.length_cons, List.length_nil, List.length_append, Nat.zero_add] at *)
  all_goals (try simp (disch := omega) only [wrap64] at *)
  all_goals try first | exact leafDraw (by kernel_rfl) | exact Leaf.mk trivial | (refine Leaf.mk ?_; omega) | (refine Leaf.mk ?_; unfold maxLen; omega)
  all_goals
    refine Leaf.mk (ret1 (show _ = about k (kind, key, txn, ts, gone, val) from ?_))
    unfold about
    dsimp only
    try rw [‹wide _ = false›]
    try rw [‹wide _ = true›]
    first
    | rfl
    | (rw [decide_eq_false (fun hc => by omega)]; rfl)
    | (rw [Bool.eq_iff_iff]; simp only [Bool.false_or, decide_eq_true_eq, beq_iff_eq]
       exact ⟨fun h => ⟨by assumption, h⟩, fun h => h.2⟩)
def applyM (s : Stk) (m : Msg) : Stk := if mcheck m = 0 ∧ about s.1 m = true then (if m.1 = 1 then commit s m.2.2.1 m.2.2.2.1 else if m.1 = 2 then abort s m.2.2.1 else if m.1 = 3 then prune s m.2.2.2.1 else write s (m.2.2.1, 0, m.2.2.2.2.1, m.2.2.2.2.2)) else s
def sApply : PSpec := ⟨[.d StT, .d MsgT], [⟨true, [.d StT]⟩], fun x => List.length x.1.2 ≤ 100000, fun x => ((applyM x.1 x.2.1, ()), ())⟩
def sApplyR : PSpec := sApply
theorem fApply : FnOk Tryz.prog 69 := ⟨_, Tryz.func69, by decide, rfl⟩
theorem pApply : PSound Tryz.prog 69 sApply := by
  refine psound (T := tab) (S := (spOf [(65, sMCheck.spec (lsOf [])), (128, sAbout.spec (lsOf [])), (129, sCloneV.spec (lsOf [])), (130, sCommit.spec (lsOf [])), (131, sAbort.spec (lsOf [])), (132, sPrune.spec (lsOf [])), (133, sWrite.spec (lsOf []))])) (keep := k69) (by kernel_rfl) tabOk (spCons (pOk pMCheck fMCheck (by decide) lsNil) (spCons (pOk pAbout fAbout (by decide) lsNil) (spCons (pOk pCloneV fCloneV (by decide) lsNil) (spCons (pOk pCommit fCommit (by decide) lsNil) (spCons (pOk pAbort fAbort (by decide) lsNil) (spCons (pOk pPrune fPrune (by decide) lsNil) (spCons (pOk pWrite fWrite (by decide) lsNil) spNil))))))) (by kernel_rfl) Tryz.func69 (by kernel_rfl) (by decide) fun xs hg hp => ?_
  obtain ⟨⟨skey, xs⟩, ⟨kind, key, txn, ts, gone, val⟩, ⟨⟩⟩ := xs
  obtain ⟨-, hg⟩ := hg
  obtain ⟨⟨hk, -⟩, -⟩ := hg
  change List UInt8 at key
  change List UInt8 at val
  change Int at kind txn ts
  change Bool at gone
  have hk := bdu8 hk
  change List UInt8 at skey
  change List Ver at xs
  change xs.length ≤ 100000 at hp
  show vfun tab _ k69 Tryz.f69 [.agg [.s skey, .sl VerT xs], .agg [.i .u8 kind, .s key, .i .i64 txn, .i .i64 ts, .b gone, .s val]] [] _
  refine Ev.out ?_
  repeat' (first | ((with_reducible refine Ev.mk ?_); conv => whnf) | (with_reducible refine And.intro ?_ ?_) | (intro h))
  all_goals (try simp only [decide_eq_true_eq, decide_eq_false_iff_not, beq_iff_eq, bne_iff_ne, beq_eq_false_iff_ne, bne_eq_false_iff_eq, Int.toNat_natCast, ge_iff_le, gt_iff_lt, Bool.not_eq_true', Bool.not_eq_false', Int.not_lt, Int.not_le, ne_eq] at *)
  all_goals (try dsimp only [Ty.den, Ty.dflt, MsgT, VerT, sMCheck, sAbout, sAboutR, sMCheckR] at *)
  all_goals (try simp only [eq4, ne4, eq3, ne3, eq2, ne2, Prod.eta, List.length_cons, List.length_nil, List.length_append, Nat.zero_add] at *)
  all_goals (try simp (disch := omega) only [wrap64] at *)
  all_goals try first | exact leafDraw (by kernel_rfl) | exact Leaf.mk trivial | (refine Leaf.mk ?_; omega) | (refine Leaf.mk ?_; unfold maxLen; omega)
  all_goals try first
    | exact Leaf.mk (show xs.length ≤ 100000 from hp)
    | exact Leaf.mk (show xs.length ≤ 1000000 by omega)
  all_goals
    refine Leaf.mk (ret1 (show (_ : Stk) = applyM (skey, xs) (kind, key, txn, ts, gone, val) from ?_))
    unfold applyM
    first
    | (refine Eq.trans ?_ (if_neg (fun hc => h hc.1)).symm; rfl)
    | (refine Eq.trans ?_ (if_neg (fun hc => Bool.noConfusion (hc.2.symm.trans h))).symm; rfl)
    | (refine Eq.trans ?_ (if_pos ⟨‹mcheck _ = 0›, ‹about _ _ = true›⟩).symm
       first
       | (refine Eq.trans ?_ (if_pos ‹kind = 1›).symm; rfl)
       | (refine Eq.trans ?_ (if_neg ‹¬ kind = 1›).symm
          first
          | (refine Eq.trans ?_ (if_pos ‹kind = 2›).symm; rfl)
          | (refine Eq.trans ?_ (if_neg ‹¬ kind = 2›).symm
             first
             | (refine Eq.trans ?_ (if_pos ‹kind = 3›).symm; rfl)
             | (refine Eq.trans ?_ (if_neg ‹¬ kind = 3›).symm; rfl))))
end Go.Proofs.YtkmfjlfejdoehaaGreat

set_option linter.unusedVariables false
set_option linter.unusedSimpArgs false
set_option maxRecDepth 8000
set_option maxHeartbeats 4000000
namespace Go.Proofs.YtkmfjlfejdoehaaGreat
open Go.Eng
def sPlaceR : PSpec := sPlace
theorem fPlaceR : FnOk Tryz.prog 191 := ⟨_, Tryz.func191, by decide, rfl⟩
theorem pPlaceR : PSound Tryz.prog 191 sPlaceR := by
  refine psound (T := tab) (S := (spOf [])) (keep := k191) (by kernel_rfl) tabOk spNil (by kernel_rfl) Tryz.func191 (by kernel_rfl) (by decide) fun xs hg hp => ?_
  obtain ⟨⟨key, xs⟩, me, ⟨⟩⟩ := xs
  obtain ⟨⟨-, hl, -⟩, -⟩ := hg
  change List UInt8 at key
  change List Ver at xs
  change Int at me
  change xs.length ≤ _ at hl
  have hl := len63 hl
  show vfun tab _ k191 Tryz.f191 [.agg [.s key, .sl VerT xs], .i .i64 me] [] _
  refine Ev.out ?_
  repeat' (first | ((with_reducible refine Ev.mk ?_); conv => whnf) | (with_reducible refine And.intro ?_ ?_) | (intro h))
  refine LoopVC.on (fun i : Nat => [(5, .i .i64 i)]) (fun _ => []) (fun i => i ≤ xs.length ∧ idxF (roomP me) xs 0 = idxF (roomP me) (xs.drop i) i) (fun i => xs.length - i) 0 rfl ⟨by omega, by simp⟩ ?_
  intro i ⟨hi, he⟩
  repeat' (first | ((with_reducible refine Ev.mk ?_); conv => whnf) | (with_reducible refine And.intro ?_ ?_) | (intro h))
  all_goals (try simp only [decide_eq_true_eq, decide_eq_false_iff_not, beq_iff_eq, bne_iff_ne, beq_eq_false_iff_ne, bne_eq_false_iff_eq, Int.toNat_natCast, ge_iff_le, gt_iff_lt, Bool.not_eq_true', Bool.not_eq_false', Int.not_lt, Int.not_le, ne_eq] at *)
  all_goals (try dsimp only [Ty.den, Ty.dflt, VerT] at *)
  all_goals (try simp only [eq4, ne4, eq3, ne3, eq2, ne2, Prod.eta, List.length_cons, List.length_nil, List.length_append, Nat.zero_add] at *)
  all_goals (try simp (disch := omega) only [wrap64] at *)
  all_goals try first | exact leafDraw (by kernel_rfl) | exact Leaf.mk trivial | (refine Leaf.mk ?_; omega) | (refine Leaf.mk ?_; unfold maxLen; omega)
  all_goals first
    | (rw [drop_end (by omega)] at he; exact Leaf.mk (ret1 he.symm))
    | (rw [drop_at ver0 (by omega), idxF, if_pos (show roomP me (xs.getD i ver0) = true by simp only [roomP, Bool.and_eq_true, beq_iff_eq]; exact ⟨‹_›, ‹_›⟩)] at he; exact Leaf.mk (ret1 he.symm))
    | (rw [drop_at ver0 (by omega), idxF, if_neg (show ¬ roomP me (xs.getD i ver0) = true by simp only [roomP, Bool.and_eq_true, beq_iff_eq]; exact fun hc => by first | exact ‹¬ _› hc.1 | exact ‹¬ _› hc.2)] at he; exact Leaf.mk ⟨i + 1, rfl, ⟨by omega, he⟩, by omega⟩)
def sWithR : PSpec := ⟨[.d StT, .d (.slice VerT)], [⟨true, [.d .str, .o 121 VerT]⟩], fun x => List.length x.2.1 ≤ 1000000, fun x => ((x.1.1, (x.2.1, ())), ())⟩
theorem fWithR : FnOk Tryz.prog 192 := ⟨_, Tryz.func192, by decide, rfl⟩
theorem pWithR : PSound Tryz.prog 192 sWithR := by
  refine psound (T := tab) (S := (spOf [])) (keep := k192) (by kernel_rfl) tabOk spNil (by kernel_rfl) Tryz.func192 (by kernel_rfl) (by decide) fun xs hg hp => ?_
  obtain ⟨⟨key, xs⟩, l, ⟨⟩⟩ := xs
  change List UInt8 at key
  change List Ver at xs
  change List Ver at l
  change l.length ≤ 1000000 at hp
  show vfun tab _ k192 Tryz.f192 [.agg [.s key, .sl VerT xs], .sl VerT l] [] _
  refine Ev.out ?_
  repeat' (first | ((with_reducible refine Ev.mk ?_); conv => whnf) | (with_reducible refine And.intro ?_ ?_) | (intro h))
  all_goals (try simp only [decide_eq_true_eq, decide_eq_false_iff_not, beq_iff_eq, bne_iff_ne, beq_eq_false_iff_ne, bne_eq_false_iff_eq, Int.toNat_natCast, ge_iff_le, gt_iff_lt, Bool.not_eq_true', Bool.not_eq_false', Int.not_lt, Int.not_le, ne_eq] at *)
  all_goals (try dsimp only [Ty.den, Ty.dflt, VerT] at *)
  all_goals (try simp only [eq4, ne4, eq3, ne3, eq2, ne2, Prod.eta, List.length_cons, List.length_nil, List.length_append, Nat.zero_add] at *)
  all_goals (try simp (disch := omega) only [wrap64] at *)
  all_goals try first | exact leafDraw (by kernel_rfl) | exact Leaf.mk trivial | (refine Leaf.mk ?_; omega) | (refine Leaf.mk ?_; unfold maxLen; omega)
  exact Leaf.mk rfl
def sWriteR : PSpec := ⟨[.d StT, .d VerT], [⟨true, [.d StT]⟩], fun x => List.length x.1.2 ≤ 100000, fun x => ((write x.1 x.2.1, ()), ())⟩
theorem fWriteR : FnOk Tryz.prog 139 := ⟨_, Tryz.func139, by decide, rfl⟩
theorem pWriteR : PSound Tryz.prog 139 sWriteR := by
  refine psound (T := tab) (S := (spOf [(191, sPlaceR.spec (lsOf [])), (192, sWithR.spec (lsOf []))])) (keep := k139) (by kernel_rfl) tabOk (spCons (pOk pPlaceR fPlaceR (by decide) lsNil) (spCons (pOk pWithR fWithR (by decide) lsNil) spNil)) (by kernel_rfl) Tryz.func139 (by kernel_rfl) (by decide) fun xs hg hp => ?_
  obtain ⟨⟨key, xs⟩, ⟨txn, ts, gone, val⟩, ⟨⟩⟩ := xs
  change List UInt8 at key
  change List Ver at xs
  change xs.length ≤ 100000 at hp
  have hz := idxF_pos (roomP txn) xs 0
  show vfun tab _ k139 Tryz.f139 [.agg [.s key, .sl VerT xs], .agg [.i .i64 txn, .i .i64 ts, .b gone, .s val]] [] _
  refine Ev.out ?_
  repeat' (first | ((with_reducible refine Ev.mk ?_); conv => whnf) | (with_reducible refine And.intro ?_ ?_) | (intro h))
  all_goals (try simp only [decide_eq_true_eq, decide_eq_false_iff_not, beq_iff_eq, bne_iff_ne, beq_eq_false_iff_ne, bne_eq_false_iff_eq, Int.toNat_natCast, ge_iff_le, gt_iff_lt, Bool.not_eq_true', Bool.not_eq_false', Int.not_lt, Int.not_le, ne_eq] at *)
  all_goals (try dsimp only [Ty.den, Ty.dflt, VerT, sWithR, sPlaceR, sPlace] at *)
  all_goals (try simp only [eq4, ne4, eq3, ne3, eq2, ne2, Prod.eta, List.length_cons, List.length_nil, List.length_append, Nat.zero_add] at *)
  all_goals (try simp (disch := omega) only [wrap64] at *)
  all_goals try first | exact leafDraw (by kernel_rfl) | exact Leaf.mk trivial | (refine Leaf.mk ?_; omega) | (refine Leaf.mk ?_; unfold maxLen; omega)
  · refine Leaf.mk (ret1 (show (key, _) = write (key, xs) (txn, ts, gone, val) from ?_))
    exact (if_pos h).symm
  · refine Leaf.mk (ret1 (show (key, _) = write (key, xs) (txn, ts, gone, val) from ?_))
    exact ((if_neg (Int.not_le.2 ‹idxF (roomP txn) xs 0 < 0›)).trans (if_pos (show xs.length < 8 by omega))).symm
  · refine Leaf.mk (ret1 (show (key, _) = write (key, xs) (txn, ts, gone, val) from ?_))
    exact ((if_neg (Int.not_le.2 ‹idxF (roomP txn) xs 0 < 0›)).trans (if_neg (show ¬ xs.length < 8 by omega))).symm
def abN (me : Int) (xs : List Ver) (i : Nat) : List Ver := (xs.take i).filter (fun v => !roomP me v)
theorem abN_len (me : Int) (xs : List Ver) (i : Nat) : (abN me xs i).length ≤ i := length_filter_take
theorem abN_in {me : Int} {xs : List Ver} {i : Nat} (h : i < xs.length) (hr : roomP me (xs.getD i ver0) = false) : abN me xs (i + 1) = abN me xs i ++ [xs.getD i ver0] := by
  rw [abN, filter_at ver0 h, if_pos (by rw [hr]; rfl)]; rfl
theorem abN_out {me : Int} {xs : List Ver} {i : Nat} (h : i < xs.length) (hr : roomP me (xs.getD i ver0) = true) : abN me xs (i + 1) = abN me xs i := by
  rw [abN, filter_at ver0 h, if_neg (by rw [hr]; simp), List.append_nil]; rfl
theorem keepN_in {ts la : Int} {xs : List Ver} {i : Nat} (h : dropP ts la i (xs.getD i ver0) = false) : keepN ts la xs (i + 1) = keepN ts la xs i ++ [xs.getD i ver0] := by
  rw [keepN, if_neg (by rw [h]; simp)]
theorem keepN_out {ts la : Int} {xs : List Ver} {i : Nat} (h : dropP ts la i (xs.getD i ver0) = true) : keepN ts la xs (i + 1) = keepN ts la xs i := by
  rw [keepN, if_pos h, List.append_nil]
theorem drop_f1 {ts la : Int} {i : Nat} {v : Ver} (h : (i : Int) = la) (h2 : v.2.2.1 = false) : dropP ts la i v = false := by simp [dropP, h, h2]
theorem drop_f2 {ts la : Int} {i : Nat} {v : Ver} (h : ¬ (1 ≤ v.2.1 ∧ v.2.1 ≤ ts)) : dropP ts la i v = false := by simp only [dropP, okTs, decide_eq_false h, Bool.false_and]
theorem drop_t1 {ts la : Int} {i : Nat} {v : Ver} (h : 1 ≤ v.2.1) (h1 : v.2.1 ≤ ts) (h2 : v.2.2.1 = true) : dropP ts la i v = true := by simp [dropP, okTs, h, h1, h2]
theorem drop_t2 {ts la : Int} {i : Nat} {v : Ver} (h : 1 ≤ v.2.1) (h1 : v.2.1 ≤ ts) (h2 : ¬ (i : Int) = la) : dropP ts la i v = true := by simp [dropP, okTs, h, h1, h2]
theorem slot_s1 {ts : Int} {ys : List Ver} {n : Nat} (h : ¬ (ys.getD n ver0).2.1 = 0) (h1 : (ys.getD n ver0).2.1 ≤ ts) : slotN ts ys (n + 1) = n + 1 := by
  rw [slotN, if_neg (by omega)]
theorem slot_s2 {ts : Int} {ys : List Ver} {n : Nat} (h : ts < (ys.getD n ver0).2.1) : slotN ts ys (n + 1) = slotN ts ys n := by
  rw [slotN, if_pos (.inr h)]
theorem slot_s3 {ts : Int} {ys : List Ver} {n : Nat} (h : (ys.getD n ver0).2.1 = 0) : slotN ts ys (n + 1) = slotN ts ys n := by
  rw [slotN, if_pos (.inl h)]
def sAbortR : PSpec := ⟨[.d StT, .d (.int .i64)], [⟨true, [.d StT]⟩], fun x => List.length x.1.2 ≤ 100000, fun x => ((abort x.1 x.2.1, ()), ())⟩
theorem fAbortR : FnOk Tryz.prog 137 := ⟨_, Tryz.func137, by decide, rfl⟩
theorem pAbortR : PSound Tryz.prog 137 sAbortR := by
  refine psound (T := tab) (S := (spOf [])) (keep := k137) (by kernel_rfl) tabOk spNil (by kernel_rfl) Tryz.func137 (by kernel_rfl) (by decide) fun xs hg hp => ?_
  obtain ⟨⟨key, xs⟩, me, ⟨⟩⟩ := xs
  change List UInt8 at key
  change List Ver at xs
  change Int at me
  change xs.length ≤ 100000 at hp
  show vfun tab _ k137 Tryz.f137 [.agg [.s key, .sl VerT xs], .i .i64 me] [] _
  refine Ev.out ?_
  repeat' (first | ((with_reducible refine Ev.mk ?_); conv => whnf) | (with_reducible refine And.intro ?_ ?_) | (intro h))
  all_goals (try simp only [decide_eq_true_eq, decide_eq_false_iff_not, beq_iff_eq, bne_iff_ne, beq_eq_false_iff_ne, bne_eq_false_iff_eq, Int.toNat_natCast, ge_iff_le, gt_iff_lt, Bool.not_eq_true', Bool.not_eq_false', Int.not_lt, Int.not_le, ne_eq] at *)
  all_goals (try dsimp only [Ty.den, Ty.dflt, VerT] at *)
  all_goals (try simp only [eq4, ne4, eq3, ne3, eq2, ne2, Prod.eta, List.length_cons, List.length_nil, List.length_append, Nat.zero_add] at *)
  all_goals (try simp (disch := omega) only [wrap64] at *)
  all_goals try first | exact leafDraw (by kernel_rfl) | exact Leaf.mk trivial | (refine Leaf.mk ?_; omega) | (refine Leaf.mk ?_; unfold maxLen; omega)
  refine LoopVC.weak [(.cell 2 1, .nil 121 VerT)] (fun i : Nat => [(6, .i .i64 i)]) (fun i => [(3, .arr 121 VerT (abN me xs i))]) (fun i => i ≤ xs.length) (fun i => xs.length - i) 0 (Ev.mk ?_)
  (conv => whnf)
  refine ⟨Leaf.mk rfl, Leaf.mk ?_, ?_⟩
  · omega
  intro i hi
  have hfl := abN_len me xs i
  repeat' (first | ((with_reducible refine Ev.mk ?_); conv => whnf) | (with_reducible refine And.intro ?_ ?_) | (intro h))
  all_goals (try simp only [decide_eq_true_eq, decide_eq_false_iff_not, beq_iff_eq, bne_iff_ne, beq_eq_false_iff_ne, bne_eq_false_iff_eq, Int.toNat_natCast, ge_iff_le, gt_iff_lt, Bool.not_eq_true', Bool.not_eq_false', Int.not_lt, Int.not_le, ne_eq] at *)
  all_goals (try dsimp only [Ty.den, Ty.dflt, VerT] at *)
  all_goals (try simp only [eq4, ne4, eq3, ne3, eq2, ne2, Prod.eta, List.length_cons, List.length_nil, List.length_append, Nat.zero_add] at *)
  all_goals (try simp (disch := omega) only [wrap64] at *)
  all_goals try first | exact leafDraw (by kernel_rfl) | exact Leaf.mk trivial | (refine Leaf.mk ?_; omega) | (refine Leaf.mk ?_; unfold maxLen; omega)
  all_goals first
    | (refine Leaf.mk ?_; omega)
    | (refine Leaf.mk ?_; unfold maxLen; omega)
    | (refine Leaf.mk ⟨i + 1, ?_, by omega, by omega⟩
       rw [abN_in (by omega) (by
         simp only [roomP, Bool.and_eq_false_iff, beq_eq_false_iff_ne]
         first | exact .inl ‹_› | exact .inr ‹_›)]; rfl)
    | (refine Leaf.mk ⟨i + 1, ?_, by omega, by omega⟩
       rw [abN_out (by omega) (by
         simp only [roomP, Bool.and_eq_true, beq_iff_eq]
         exact ⟨‹_›, ‹_›⟩)]; rfl)
    | (refine Leaf.mk (ret1 (show (key, _) = abort (key, xs) me from ?_))
       rw [abN, take_all (by omega)]; rfl)
def sPruneR : PSpec := ⟨[.d StT, .d (.int .i64)], [⟨true, [.d StT]⟩], fun x => List.length x.1.2 ≤ 100000, fun x => ((prune x.1 x.2.1, ()), ())⟩
theorem fPruneR : FnOk Tryz.prog 138 := ⟨_, Tryz.func138, by decide, rfl⟩
theorem pPruneR : PSound Tryz.prog 138 sPruneR := by
  refine psound (T := tab) (S := (spOf [])) (keep := k138) (by kernel_rfl) tabOk spNil (by kernel_rfl) Tryz.func138 (by kernel_rfl) (by decide) fun xs hg hp => ?_
  obtain ⟨⟨key, xs⟩, ts, ⟨⟩⟩ := xs
  change List UInt8 at key
  change List Ver at xs
  change Int at ts
  change xs.length ≤ 100000 at hp
  show vfun tab _ k138 Tryz.f138 [.agg [.s key, .sl VerT xs], .i .i64 ts] [] _
  refine Ev.out ?_
  repeat' (first | ((with_reducible refine Ev.mk ?_); conv => whnf) | (with_reducible refine And.intro ?_ ?_) | (intro h))
  all_goals (try simp only [decide_eq_true_eq, decide_eq_false_iff_not, beq_iff_eq, bne_iff_ne, beq_eq_false_iff_ne, bne_eq_false_iff_eq, Int.toNat_natCast, ge_iff_le, gt_iff_lt, Bool.not_eq_true', Bool.not_eq_false', Int.not_lt, Int.not_le, ne_eq] at *)
  all_goals (try dsimp only [Ty.den, Ty.dflt, VerT] at *)
  all_goals (try simp only [eq4, ne4, eq3, ne3, eq2, ne2, Prod.eta, List.length_cons, List.length_nil, List.length_append, Nat.zero_add] at *)
  all_goals (try simp (disch := omega) only [wrap64] at *)
  all_goals try first | exact leafDraw (by kernel_rfl) | exact Leaf.mk trivial | (refine Leaf.mk ?_; omega) | (refine Leaf.mk ?_; unfold maxLen; omega)
  refine LoopVC.on (fun i : Nat => [(5, .i .i64 (lastN ts xs i)), (6, .i .i64 i)]) (fun _ => []) (fun i => i ≤ xs.length) (fun i => xs.length - i) 0 rfl (by omega) ?_
  intro i hi
  repeat' (first | ((with_reducible refine Ev.mk ?_); conv => whnf) | (with_reducible refine And.intro ?_ ?_) | (intro h))
  all_goals (try simp only [decide_eq_true_eq, decide_eq_false_iff_not, beq_iff_eq, bne_iff_ne, beq_eq_false_iff_ne, bne_eq_false_iff_eq, Int.toNat_natCast, ge_iff_le, gt_iff_lt, Bool.not_eq_true', Bool.not_eq_false', Int.not_lt, Int.not_le, ne_eq] at *)
  all_goals (try dsimp only [Ty.den, Ty.dflt, VerT] at *)
  all_goals (try simp only [eq4, ne4, eq3, ne3, eq2, ne2, Prod.eta, List.length_cons, List.length_nil, List.length_append, Nat.zero_add] at *)
  all_goals (try simp (disch := omega) only [wrap64] at *)
  all_goals try first | exact leafDraw (by kernel_rfl) | exact Leaf.mk trivial | (refine Leaf.mk ?_; omega) | (refine Leaf.mk ?_; unfold maxLen; omega)
  rotate_right
  · obtain rfl : i = xs.length := by omega
    clear h
    generalize hla : lastN ts xs xs.length = la
    refine LoopVC.weak [(.cell 2 1, .nil 121 VerT)] (fun i : Nat => [(8, .i .i64 i)]) (fun i => [(3, .arr 121 VerT (keepN ts la xs i))]) (fun i => i ≤ xs.length) (fun i => xs.length - i) 0 (Ev.mk ?_)
    (conv => whnf)
    refine ⟨Leaf.mk rfl, Leaf.mk ?_, ?_⟩
    · omega
    intro i hi
    have hkl := keepN_le ts la xs i
    repeat' (first | ((with_reducible refine Ev.mk ?_); conv => whnf) | (with_reducible refine And.intro ?_ ?_) | (intro h))
    all_goals (try simp only [decide_eq_true_eq, decide_eq_false_iff_not, beq_iff_eq, bne_iff_ne, beq_eq_false_iff_ne, bne_eq_false_iff_eq, Int.toNat_natCast, ge_iff_le, gt_iff_lt, Bool.not_eq_true', Bool.not_eq_false', Int.not_lt, Int.not_le, ne_eq] at *)
    all_goals (try dsimp only [Ty.den, Ty.dflt, VerT] at *)
    all_goals (try simp only [eq4, ne4, eq3, ne3, eq2, ne2, Prod.eta, List.length_cons, List.length_nil, List.length_append, Nat.zero_add] at *)
    all_goals (try simp (disch := omega) only [wrap64] at *)
    all_goals try first | exact leafDraw (by kernel_rfl) | exact Leaf.mk trivial | (refine Leaf.mk ?_; omega) | (refine Leaf.mk ?_; unfold maxLen; omega)
    all_goals first
      | (refine Leaf.mk (ret1 (show (key, _) = prune (key, xs) ts from ?_))
         unfold prune; dsimp only; rw [hla, show i = xs.length by omega]; done)
      | (refine Leaf.mk ⟨i + 1, ?_, by omega, by omega⟩
         first
         | (rw [keepN_in (drop_f1 ‹(i : Int) = la› ‹_›)]; rfl)
         | (rw [keepN_in (drop_f2 (fun hc => Int.not_lt.2 hc.2 ‹_›))]; rfl)
         | (rw [keepN_in (drop_f2 (fun hc => Int.not_lt.2 hc.1 ‹_›))]; rfl)
         | (rw [keepN_out (drop_t1 ‹_› ‹_› ‹_›)]; rfl)
         | (rw [keepN_out (drop_t2 ‹_› ‹_› ‹¬ (i : Int) = la›)]; rfl))
  all_goals first
    | (refine Leaf.mk ⟨i + 1, ?_, by omega, by omega⟩
       rw [lastN, if_pos (show okTs ts (xs.getD i ver0) = true from decide_eq_true ⟨‹_›, ‹_›⟩)]; rfl)
    | (refine Leaf.mk ⟨i + 1, ?_, by omega, by omega⟩
       rw [lastN, if_neg (show ¬ okTs ts (xs.getD i ver0) = true from fun hc => by have := of_decide_eq_true hc; dsimp only [ver0] at *; omega)]; rfl)
def sCommitR : PSpec := ⟨[.d StT, .d (.int .i64), .d (.int .i64)], [⟨true, [.d StT]⟩], fun x => List.length x.1.2 ≤ 100000, fun x => ((commit x.1 x.2.1 x.2.2.1, ()), ())⟩
theorem fCommitR : FnOk Tryz.prog 136 := ⟨_, Tryz.func136, by decide, rfl⟩
theorem pCommitR : PSound Tryz.prog 136 sCommitR := by
  refine psound (T := tab) (S := (spOf [(191, sPlaceR.spec (lsOf [])), (192, sWithR.spec (lsOf []))])) (keep := k136) (by kernel_rfl) tabOk (spCons (pOk pPlaceR fPlaceR (by decide) lsNil) (spCons (pOk pWithR fWithR (by decide) lsNil) spNil)) (by kernel_rfl) Tryz.func136 (by kernel_rfl) (by decide) fun xs hg hp => ?_
  obtain ⟨⟨key, xs⟩, me, ts, ⟨⟩⟩ := xs
  change List UInt8 at key
  change List Ver at xs
  change Int at me ts
  change xs.length ≤ 100000 at hp
  have hz := idxF_pos (roomP me) xs 0
  show vfun tab _ k136 Tryz.f136 [.agg [.s key, .sl VerT xs], .i .i64 me, .i .i64 ts] [] _
  refine Ev.out ?_
  repeat' (first | ((with_reducible refine Ev.mk ?_); conv => whnf) | (with_reducible refine And.intro ?_ ?_) | (intro h))
  all_goals (try simp only [decide_eq_true_eq, decide_eq_false_iff_not, beq_iff_eq, bne_iff_ne, beq_eq_false_iff_ne, bne_eq_false_iff_eq, Int.toNat_natCast, ge_iff_le, gt_iff_lt, Bool.not_eq_true', Bool.not_eq_false', Int.not_lt, Int.not_le, ne_eq] at *)
  all_goals (try dsimp only [Ty.den, Ty.dflt, VerT, sWithR, sPlaceR, sPlace] at *)
  all_goals (try simp only [eq4, ne4, eq3, ne3, eq2, ne2, Prod.eta, List.length_cons, List.length_nil, List.length_append, Nat.zero_add] at *)
  all_goals (try simp (disch := omega) only [wrap64] at *)
  all_goals try first | exact leafDraw (by kernel_rfl) | exact Leaf.mk trivial | (refine Leaf.mk ?_; omega) | (refine Leaf.mk ?_; unfold maxLen; omega)
  · exact Leaf.mk (ret1 (show (key, xs) = commit (key, xs) me ts from (if_pos (.inl h)).symm))
  · exact Leaf.mk (ret1 (show (key, xs) = commit (key, xs) me ts from (if_pos (.inr h)).symm))
  all_goals
    obtain ⟨p, hp0⟩ := Int.eq_ofNat_of_zero_le (show 0 ≤ idxF (roomP me) xs 0 by omega)
    have hpl : p < xs.length := by omega
  all_goals have hq0 : (idxF (roomP me) xs 0).toNat = p := by omega
  all_goals have hq1 : (idxF (roomP me) xs 0 + 1).toNat = p + 1 := by omega
  all_goals rw [hq0] at *
  all_goals simp only [hq1, Int.toNat_natCast, Int.toNat_zero, List.drop_zero, List.nil_append, take_all (Nat.le_refl xs.length)] at *
  all_goals try rw [show xs.take p ++ xs.drop (p + 1) = cut xs p from rfl]
  all_goals try first
    | (refine Leaf.mk ?_; simp only [List.length_take, List.length_drop]; omega)
    | (refine Leaf.mk ?_; simp only [List.length_take, List.length_drop]; unfold maxLen; omega)
  have hC : commit (key, xs) me ts = (key, (cut xs p).take (slotN ts (cut xs p) (cut xs p).length) ++ ([((xs.getD p ver0).1, ts, (xs.getD p ver0).2.2)] ++ (cut xs p).drop (slotN ts (cut xs p) (cut xs p).length))) := by
    refine (if_neg (show ¬ (idxF (roomP me) xs 0 < 0 ∨ ts < 1) by omega)).trans ?_
    show (key, _) = _
    dsimp only
    rw [hp0, Int.toNat_natCast]
  have hyl : (cut xs p).length ≤ 100000 := by simp [cut]; omega
  generalize hys : cut xs p = ys at *
  refine LoopVC.weak [(.slot 9, .frz)] (fun n : Nat => [(10, .i .i64 (slotN ts ys n)), (11, .i .i64 n)]) (fun _ => []) (fun n => n ≤ ys.length) (fun n => ys.length - n) 0 (Ev.mk ?_)
  (conv => whnf)
  refine ⟨Leaf.mk ?_, Leaf.mk ?_, ?_⟩
  · rfl
  · exact Nat.zero_le _
  intro n hn
  have hsl := slotN_le (ts := ts) (ys := ys) n
  repeat' (first | ((with_reducible refine Ev.mk ?_); conv => whnf) | (with_reducible refine And.intro ?_ ?_) | (intro h))
  all_goals (try simp only [decide_eq_true_eq, decide_eq_false_iff_not, beq_iff_eq, bne_iff_ne, beq_eq_false_iff_ne, bne_eq_false_iff_eq, Int.toNat_natCast, ge_iff_le, gt_iff_lt, Bool.not_eq_true', Bool.not_eq_false', Int.not_lt, Int.not_le, ne_eq] at *)
  all_goals (try dsimp only [Ty.den, Ty.dflt, VerT, sWithR] at *)
  all_goals (try simp only [eq4, ne4, eq3, ne3, eq2, ne2, Prod.eta, List.length_cons, List.length_nil, List.length_append, Nat.zero_add] at *)
  all_goals (try simp (disch := omega) only [wrap64] at *)
  all_goals try first | exact leafDraw (by kernel_rfl) | exact Leaf.mk trivial | (refine Leaf.mk ?_; omega) | (refine Leaf.mk ?_; unfold maxLen; omega)
  all_goals try first
    | (refine Leaf.mk ⟨n + 1, ?_, by omega, by omega⟩
       first
       | (rw [slot_s1 ‹_› ‹_›]; rfl)
       | (rw [slot_s2 ‹_›]; rfl)
       | (rw [slot_s3 ‹_›]; rfl))
    | (refine Leaf.mk ?_; simp only [List.length_append, List.length_take, List.length_drop, List.length_singleton]; omega)
    | (refine Leaf.mk ?_; simp only [List.length_append, List.length_take, List.length_drop, List.length_singleton]; unfold maxLen; omega)
  refine Leaf.mk (ret1 (show (key, _) = commit (key, xs) me ts from ?_))
  rw [hC, show n = ys.length by omega, Int.toNat_zero, List.drop_zero, List.nil_append, List.append_assoc, take_all (Nat.le_refl ys.length)]
theorem fApplyR : FnOk Tryz.prog 72 := ⟨_, Tryz.func72, by decide, rfl⟩
theorem pApplyR : PSound Tryz.prog 72 sApplyR := by
  refine psound (T := tab) (S := (spOf [(70, sMCheckR.spec (lsOf [])), (135, sAboutR.spec (lsOf [])), (136, sCommitR.spec (lsOf [])), (137, sAbortR.spec (lsOf [])), (138, sPruneR.spec (lsOf [])), (139, sWriteR.spec (lsOf []))])) (keep := k72) (by kernel_rfl) tabOk (spCons (pOk pMCheckR fMCheckR (by decide) lsNil) (spCons (pOk pAboutR fAboutR (by decide) lsNil) (spCons (pOk pCommitR fCommitR (by decide) lsNil) (spCons (pOk pAbortR fAbortR (by decide) lsNil) (spCons (pOk pPruneR fPruneR (by decide) lsNil) (spCons (pOk pWriteR fWriteR (by decide) lsNil) spNil)))))) (by kernel_rfl) Tryz.func72 (by kernel_rfl) (by decide) fun xs hg hp => ?_
  obtain ⟨⟨skey, xs⟩, ⟨kind, key, txn, ts, gone, val⟩, ⟨⟩⟩ := xs
  obtain ⟨-, hg⟩ := hg
  obtain ⟨⟨hk, -⟩, -⟩ := hg
  change List UInt8 at key
  change List UInt8 at val
  change Int at kind txn ts
  change Bool at gone
  have hk := bdu8 hk
  change List UInt8 at skey
  change List Ver at xs
  change xs.length ≤ 100000 at hp
  show vfun tab _ k72 Tryz.f72 [.agg [.s skey, .sl VerT xs], .agg [.i .u8 kind, .s key, .i .i64 txn, .i .i64 ts, .b gone, .s val]] [] _
  refine Ev.out ?_
  repeat' (first | ((with_reducible refine Ev.mk ?_); conv => whnf) | (with_reducible refine And.intro ?_ ?_) | (intro h))
  all_goals (try simp only [decide_eq_true_eq, decide_eq_false_iff_not, beq_iff_eq, bne_iff_ne, beq_eq_false_iff_ne, bne_eq_false_iff_eq, Int.toNat_natCast, ge_iff_le, gt_iff_lt, Bool.not_eq_true', Bool.not_eq_false', Int.not_lt, Int.not_le, ne_eq] at *)
  all_goals (try dsimp only [Ty.den, Ty.dflt, MsgT, VerT, sMCheck, sAbout, sAboutR, sMCheckR] at *)
  all_goals (try simp only [eq4, ne4, eq3, ne3, eq2, ne2, Prod.eta, List.length_cons, List.length_nil, List.length_append, Nat.zero_add] at *)
  all_goals (try simp (disch := omega) only [wrap64] at *)
  all_goals try first | exact leafDraw (by kernel_rfl) | exact Leaf.mk trivial | (refine Leaf.mk ?_; omega) | (refine Leaf.mk ?_; unfold maxLen; omega)
  all_goals try first
    | exact Leaf.mk (show xs.length ≤ 100000 from hp)
    | exact Leaf.mk (show xs.length ≤ 1000000 by omega)
  all_goals
    refine Leaf.mk (ret1 (show (_ : Stk) = applyM (skey, xs) (kind, key, txn, ts, gone, val) from ?_))
    unfold applyM
    first
    | (refine Eq.trans ?_ (if_neg (fun hc => h hc.1)).symm; rfl)
    | (refine Eq.trans ?_ (if_neg (fun hc => Bool.noConfusion (hc.2.symm.trans h))).symm; rfl)
    | (refine Eq.trans ?_ (if_pos ⟨‹mcheck _ = 0›, ‹about _ _ = true›⟩).symm
       first
       | (refine Eq.trans ?_ (if_pos ‹kind = 1›).symm; rfl)
       | (refine Eq.trans ?_ (if_neg ‹¬ kind = 1›).symm
          first
          | (refine Eq.trans ?_ (if_pos ‹kind = 2›).symm; rfl)
          | (refine Eq.trans ?_ (if_neg ‹¬ kind = 2›).symm
             first
             | (refine Eq.trans ?_ (if_pos ‹kind = 3›).symm; rfl)
             | (refine Eq.trans ?_ (if_neg ‹¬ kind = 3›).symm; rfl))))
theorem write_len' (s : Stk) (v : Ver) : (write s v).2.length ≤ s.2.length + 1 := by
  unfold write; repeat' split
  all_goals simp
theorem abort_len (s : Stk) (me : Int) : (abort s me).2.length ≤ s.2.length := List.length_filter_le _ _
theorem prune_len (s : Stk) (ts : Int) : (prune s ts).2.length ≤ s.2.length := keepN_le _ _ _ _
theorem commit_len (s : Stk) (me ts : Int) : (commit s me ts).2.length ≤ s.2.length + 1 := by
  unfold commit
  split
  · exact Nat.le_succ _
  · simp only [List.length_append, List.length_take, List.length_drop, List.length_singleton, cut]
    omega
theorem apply_len (s : Stk) (m : Msg) : (applyM s m).2.length ≤ s.2.length + 1 := by
  have h1 := write_len' s (m.2.2.1, 0, m.2.2.2.2.1, m.2.2.2.2.2)
  have h2 := abort_len s m.2.2.1
  have h3 := prune_len s m.2.2.2.1
  have h4 := commit_len s m.2.2.1 m.2.2.2.1
  unfold applyM
  repeat' split
  all_goals omega
def foldM (s : Stk) (l : List Msg) : Stk := l.foldl applyM s
theorem fold_len : ∀ (l : List Msg) (s : Stk), (foldM s l).2.length ≤ s.2.length + l.length
  | [], s => Nat.le_refl _
  | m :: l, s => by
    have h1 := apply_len s m
    have h2 := fold_len l (applyM s m)
    show (foldM (applyM s m) l).2.length ≤ _
    rw [List.length_cons]; omega
def sFold : PSpec := ⟨[.d StT, .d (.slice MsgT)], [⟨true, [.d StT]⟩], fun x => List.length x.1.2 + List.length x.2.1 ≤ 50000, fun x => ((foldM x.1 x.2.1, ()), ())⟩
def sFoldR : PSpec := sFold
theorem fFold : FnOk Tryz.prog 79 := ⟨_, Tryz.func79, by decide, rfl⟩
theorem pFold : PSound Tryz.prog 79 sFold := by
  refine psound (T := tab) (S := (spOf [(69, sApply.spec (lsOf []))])) (keep := k79) (by kernel_rfl) tabOk (spCons (pOk pApply fApply (by decide) lsNil) spNil) (by kernel_rfl) Tryz.func79 (by kernel_rfl) (by decide) fun xs hg hp => ?_
  obtain ⟨⟨skey, xs⟩, l, ⟨⟩⟩ := xs
  change List UInt8 at skey
  change List Ver at xs
  change List Msg at l
  change xs.length + l.length ≤ 50000 at hp
  clear hg
  show vfun tab _ k79 Tryz.f79 [.agg [.s skey, .sl VerT xs], .sl MsgT l] [] _
  refine Ev.out ?_
  repeat' (first | ((with_reducible refine Ev.mk ?_); conv => whnf) | (with_reducible refine And.intro ?_ ?_) | (intro h))
  all_goals (try simp only [decide_eq_true_eq, decide_eq_false_iff_not, beq_iff_eq, bne_iff_ne, beq_eq_false_iff_ne, bne_eq_false_iff_eq, Int.toNat_natCast, ge_iff_le, gt_iff_lt, Bool.not_eq_true', Bool.not_eq_false', Int.not_lt, Int.not_le, ne_eq] at *)
  all_goals (try dsimp only [Ty.den, Ty.dflt, VerT, MsgT] at *)
  all_goals (try simp only [eq4, ne4, eq3, ne3, eq2, ne2, Prod.eta, List.length_cons, List.length_nil, List.length_append, Nat.zero_add] at *)
  all_goals (try simp (disch := omega) only [wrap64] at *)
  all_goals try first | exact leafDraw (by kernel_rfl) | exact Leaf.mk trivial | (refine Leaf.mk ?_; omega) | (refine Leaf.mk ?_; unfold maxLen; omega)
  refine LoopVC.on (fun i : Nat => [(9, .i .i64 i)]) (fun i => [(0, .box [.s (foldM (skey, xs) (l.take i)).1, .sl VerT (foldM (skey, xs) (l.take i)).2])]) (fun i => i ≤ l.length) (fun i => l.length - i) 0 rfl (by omega) ?_
  intro i hi
  have hfl := fold_len (l.take i) (skey, xs)
  have htl : (l.take i).length ≤ i := by rw [List.length_take]; omega
  have hat : ∀ h : i < l.length, foldM (skey, xs) (l.take (i + 1)) = applyM (foldM (skey, xs) (l.take i)) (l.getD i msg0) := fun h => foldl_at msg0 h
  generalize hS : foldM (skey, xs) (l.take i) = S at *
  repeat' (first | ((with_reducible refine Ev.mk ?_); conv => whnf) | (with_reducible refine And.intro ?_ ?_) | (intro h))
  all_goals (try simp only [decide_eq_true_eq, decide_eq_false_iff_not, beq_iff_eq, bne_iff_ne, beq_eq_false_iff_ne, bne_eq_false_iff_eq, Int.toNat_natCast, ge_iff_le, gt_iff_lt, Bool.not_eq_true', Bool.not_eq_false', Int.not_lt, Int.not_le, ne_eq] at *)
  all_goals (try dsimp only [Ty.den, Ty.dflt, VerT, MsgT] at *)
  all_goals (try simp only [eq4, ne4, eq3, ne3, eq2, ne2, Prod.eta, List.length_cons, List.length_nil, List.length_append, Nat.zero_add] at *)
  all_goals (try simp (disch := omega) only [wrap64] at *)
  all_goals try first | exact leafDraw (by kernel_rfl) | exact Leaf.mk trivial | (refine Leaf.mk ?_; omega) | (refine Leaf.mk ?_; unfold maxLen; omega)
  all_goals first
    | exact Leaf.mk (show S.2.length ≤ 100000 by omega)
    | (refine Leaf.mk ⟨i + 1, ?_, by omega, by omega⟩
       rw [hat (by omega)]; rfl)
    | (refine Leaf.mk (ret1 (show (S.1, S.2) = foldM (skey, xs) l from ?_))
       rw [← hS, take_all (by omega)])
theorem fFoldR : FnOk Tryz.prog 81 := ⟨_, Tryz.func81, by decide, rfl⟩
theorem pFoldR : PSound Tryz.prog 81 sFoldR := by
  refine psound (T := tab) (S := (spOf [(72, sApplyR.spec (lsOf []))])) (keep := k81) (by kernel_rfl) tabOk (spCons (pOk pApplyR fApplyR (by decide) lsNil) spNil) (by kernel_rfl) Tryz.func81 (by kernel_rfl) (by decide) fun xs hg hp => ?_
  obtain ⟨⟨skey, xs⟩, l, ⟨⟩⟩ := xs
  change List UInt8 at skey
  change List Ver at xs
  change List Msg at l
  change xs.length + l.length ≤ 50000 at hp
  clear hg
  show vfun tab _ k81 Tryz.f81 [.agg [.s skey, .sl VerT xs], .sl MsgT l] [] _
  refine Ev.out ?_
  repeat' (first | ((with_reducible refine Ev.mk ?_); conv => whnf) | (with_reducible refine And.intro ?_ ?_) | (intro h))
  all_goals (try simp only [decide_eq_true_eq, decide_eq_false_iff_not, beq_iff_eq, bne_iff_ne, beq_eq_false_iff_ne, bne_eq_false_iff_eq, Int.toNat_natCast, ge_iff_le, gt_iff_lt, Bool.not_eq_true', Bool.not_eq_false', Int.not_lt, Int.not_le, ne_eq] at *)
  all_goals (try dsimp only [Ty.den, Ty.dflt, VerT, MsgT] at *)
  all_goals (try simp only [eq4, ne4, eq3, ne3, eq2, ne2, Prod.eta, List.length_cons, List.length_nil, List.length_append, Nat.zero_add] at *)
  all_goals (try simp (disch := omega) only [wrap64] at *)
  all_goals try first | exact leafDraw (by kernel_rfl) | exact Leaf.mk trivial | (refine Leaf.mk ?_; omega) | (refine Leaf.mk ?_; unfold maxLen; omega)
  refine LoopVC.on (fun i : Nat => [(5, .i .i64 i)]) (fun i => [(0, .box [.s (foldM (skey, xs) (l.take i)).1, .sl VerT (foldM (skey, xs) (l.take i)).2])]) (fun i => i ≤ l.length) (fun i => l.length - i) 0 rfl (by omega) ?_
  intro i hi
  have hfl := fold_len (l.take i) (skey, xs)
  have htl : (l.take i).length ≤ i := by rw [List.length_take]; omega
  have hat : ∀ h : i < l.length, foldM (skey, xs) (l.take (i + 1)) = applyM (foldM (skey, xs) (l.take i)) (l.getD i msg0) := fun h => foldl_at msg0 h
  generalize hS : foldM (skey, xs) (l.take i) = S at *
  repeat' (first | ((with_reducible refine Ev.mk ?_); conv => whnf) | (with_reducible refine And.intro ?_ ?_) | (intro h))
  all_goals (try simp only [decide_eq_true_eq, decide_eq_false_iff_not, beq_iff_eq, bne_iff_ne, beq_eq_false_iff_ne, bne_eq_false_iff_eq, Int.toNat_natCast, ge_iff_le, gt_iff_lt, Bool.not_eq_true', Bool.not_eq_false', Int.not_lt, Int.not_le, ne_eq] at *)
  all_goals (try dsimp only [Ty.den, Ty.dflt, VerT, MsgT] at *)
  all_goals (try simp only [eq4, ne4, eq3, ne3, eq2, ne2, Prod.eta, List.length_cons, List.length_nil, List.length_append, Nat.zero_add] at *)
  all_goals (try simp (disch := omega) only [wrap64] at *)
  all_goals try first | exact leafDraw (by kernel_rfl) | exact Leaf.mk trivial | (refine Leaf.mk ?_; omega) | (refine Leaf.mk ?_; unfold maxLen; omega)
  all_goals first
    | exact Leaf.mk (show S.2.length ≤ 100000 by omega)
    | (refine Leaf.mk ⟨i + 1, ?_, by omega, by omega⟩
       rw [hat (by omega)]; rfl)
    | (refine Leaf.mk (ret1 (show (S.1, S.2) = foldM (skey, xs) l from ?_))
       rw [← hS, take_all (by omega)])
end Go.Proofs.YtkmfjlfejdoehaaGreat

set_option linter.unusedVariables false
set_option linter.unusedSimpArgs false
set_option maxRecDepth 8000
set_option maxHeartbeats 4000000
namespace Go.Proofs.YtkmfjlfejdoehaaGreat
open Go.Eng
abbrev MsT : Ty := .slice MsgT
def flN (p : Msg → Bool) (l : List Msg) (i : Nat) : List Msg := (l.take i).filter p
theorem flN_len (p : Msg → Bool) (l : List Msg) (i : Nat) : (flN p l i).length ≤ i := length_filter_take
theorem flN_in {p : Msg → Bool} {l : List Msg} {i : Nat} (h : i < l.length) (hr : p (l.getD i msg0) = true) : flN p l (i + 1) = flN p l i ++ [l.getD i msg0] := by
  rw [flN, filter_at msg0 h, if_pos hr]; rfl
theorem flN_out {p : Msg → Bool} {l : List Msg} {i : Nat} (h : i < l.length) (hr : p (l.getD i msg0) = false) : flN p l (i + 1) = flN p l i := by
  rw [flN, filter_at msg0 h, if_neg (by rw [hr]; simp), List.append_nil]; rfl
def withinK (lo hi k : List UInt8) : Bool := !sless k lo && ((hi == []) || sless k hi)
def sWithin : PSpec := ⟨[.d .str, .d .str, .d .str], [⟨false, [.d .bool]⟩], fun _ => True, fun x => ((withinK x.2.1 x.2.2.1 x.1, ()), ())⟩
theorem fWithin : FnOk Tryz.prog 83 := ⟨_, Tryz.func83, by decide, rfl⟩
theorem pWithin : PSound Tryz.prog 83 sWithin := by
  refine psound (T := tab) (S := (spOf [])) (keep := k83) (by kernel_rfl) tabOk spNil (by kernel_rfl) Tryz.func83 (by kernel_rfl) (by decide) fun xs hg hp => ?_
  obtain ⟨k, lo, hi, ⟨⟩⟩ := xs
  change List UInt8 at k lo hi
  clear hg hp
  show vfun tab _ k83 Tryz.f83 [.s k, .s lo, .s hi] [] _
  refine Ev.out ?_
  repeat' (first | ((with_reducible refine Ev.mk ?_); conv => whnf) | (with_reducible refine And.intro ?_ ?_) | (intro h))
  all_goals (try simp only [decide_eq_true_eq, decide_eq_false_iff_not, beq_iff_eq, bne_iff_ne, beq_eq_false_iff_ne, bne_eq_false_iff_eq, Int.toNat_natCast, ge_iff_le, gt_iff_lt, Bool.not_eq_true', Bool.not_eq_false', Int.not_lt, Int.not_le, ne_eq] at *)
  all_goals (try dsimp only [Ty.den, Ty.dflt, MsgT] at *)
  all_goals (try simp only [eq4, ne4, eq3, ne3, eq2, ne2, Prod.eta, List.length_cons, List.length_nil, List.length_append, Nat.zero_add] at *)
  all_goals (try simp (disch := omega) only [wrap64] at *)
  all_goals try first | exact leafDraw (by kernel_rfl) | exact Leaf.mk trivial | (refine Leaf.mk ?_; omega) | (refine Leaf.mk ?_; unfold maxLen; omega)
  all_goals
    refine Leaf.mk (ret1 (show _ = withinK lo hi k from ?_))
    simp [withinK, *]
def wrP (lo hi : List UInt8) (m : Msg) : Bool := (m.1 == 0) && withinK lo hi m.2.1
end Go.Proofs.YtkmfjlfejdoehaaGreat
