import Derived.Test.YtiklpaemkeadjaaEngU
import Derived.Lib.BytesEntry
import Derived.Laws.Externs
/- Two functions of the model's own: internal/bytealg.IndexByte, Compare. -/
set_option linter.unusedVariables false
set_option linter.unusedSimpArgs false
namespace Go.Eng

theorem run_bytesOfSlice {P : Program} {w : World} {F : Nat → Prop} {xs : List Int} {x : Value} {A : Option Addr} {cap : Nat} {cells : List Value} (q : View w F (.int .u8) xs x A cap cells) :
    (Extern.Bytes.bytesOf x).run P w = .ok ⟨⟨strOfBytes xs⟩⟩ w := by
  rw [q.val]
  cases A with
  | none =>
    have h0 := q.nil rfl
    have h1 := q.le
    have : xs = [] := List.eq_nil_of_length_eq_zero (by omega)
    subst this
    rfl
  | some ad =>
    have hrow := bytes_rows xs cells q.rows
    have hl := Lib.run_loadBytesX (P := P) w xs ad .empty (fun j y hj => q.cell ad rfl j (.int .u8 y) (by rw [hrow, List.getElem?_map, hj]; rfl))
    have he : (⟨ByteArray.empty.data ++ (Lib.bytesOf xs).toArray⟩ : ByteArray) = ⟨⟨strOfBytes xs⟩⟩ := by
      apply ByteArray.ext
      show (#[] : Array UInt8) ++ (Lib.bytesOf xs).toArray = (strOfBytes xs).toArray
      simp [Lib.bytesOf, strOfBytes]
    rw [he] at hl
    exact hl
def xIndexByte : Spec := ⟨fun args h _ => match args with
  | [v, .i .u8 c] => match viewL h true (.int .u8) v with
    | some xs => some ([], .i .i64 (Lib.indexByte (strOfBytes xs) c.toNat.toUInt8), [])
    | none => none
  | _ => none, fun _ _ _ => none⟩
def xCompare : Spec := ⟨fun args h _ => match args with
  | [v, u] => match viewL h true (.int .u8) v, viewL h true (.int .u8) u with
    | some xs, some ys => some ([], .i .i64 (Lib.compareBytes (strOfBytes xs) (strOfBytes ys)), [])
    | _, _ => none
  | _ => none, fun _ _ _ => none⟩
theorem indexByte_bd (l : List UInt8) (c : UInt8) : -1 ≤ Lib.indexByte l c ∧ Lib.indexByte l c < (l.length : Int) := by
  induction l with
  | nil => simp [Lib.indexByte]
  | cons b l ih =>
    simp only [Lib.indexByte, List.length_cons]
    split
    · omega
    · split <;> omega
theorem compareBytes_bd : ∀ (a b : List UInt8), -1 ≤ Lib.compareBytes a b ∧ Lib.compareBytes a b ≤ 1
  | [], [] => by simp [Lib.compareBytes]
  | [], _ :: _ => by simp [Lib.compareBytes]
  | _ :: _, [] => by simp [Lib.compareBytes]
  | a :: as, b :: bs => by
    simp only [Lib.compareBytes]
    have := compareBytes_bd as bs
    repeat' split
    all_goals omega
theorem xIndexByte_ok {P : Program} {f : FuncId} {fn : Func} (hf : P.funcs[f]? = some fn) (hname : (fn.name == "runtime.NumGoroutine") = false) (hb : fn.body.isNone = true) (hn : Extern.findNext fn = none)
    (he : Extern.find fn = some Extern.BytealgIndexByte.indexByte) : XOk P f xIndexByte := by
  refine ⟨fun C w g h fresh args vals c v news hP R hv hs hc => ?_, fun _ _ _ => rfl⟩
  simp only [xIndexByte] at hs
  split at hs
  · rename_i a cc
    split at hs
    · rename_i xs hxs
      simp only [Option.some.injEq, Prod.mk.injEq] at hs
      obtain ⟨rfl, rfl, rfl⟩ := hs
      simp only [RVs] at hv
      obtain ⟨x, _, rfl, h1, y, _, rfl, h2, rfl⟩ := hv
      simp only [RV] at h2
      obtain ⟨rfl, _⟩ := h2
      obtain ⟨A, cap, cells, q, _⟩ := viewL_sound R hxs h1
      refine ⟨.int .i64 (Lib.indexByte (strOfBytes xs) cc.toNat.toUInt8), ?_, QRes.pure ?_⟩
      · rw [run_callFunc_extern hf hname hb hn he]
        have hs := Lib.run_indexByteString (P := P) ⟨⟨strOfBytes xs⟩⟩ cc w
        have hb := run_bytesOfSlice (P := P) q
        have : (Extern.BytealgIndexByte.indexByte [x, Value.int .u8 cc].toArray).run P w = .ok (.int .i64 (Lib.indexByte (strOfBytes xs) cc.toNat.toUInt8)) w := by
          change Sem.run P (do
            let b ← Extern.Bytes.bytesOf x
            let c ← Extern.Bytes.asByte (.int .u8 cc)
            match (List.range b.size).find? fun i => b[i]! == c with
            | some i => pure (goInt i)
            | none => pure (goInt (-1))) w = _
          change Sem.run P (do
            let b ← Extern.Bytes.bytesOf (.string ⟨⟨strOfBytes xs⟩⟩)
            let c ← Extern.Bytes.asByte (.int .u8 cc)
            match (List.range b.size).find? fun i => b[i]! == c with
            | some i => pure (goInt i)
            | none => pure (goInt (-1))) w = _ at hs
          simp only [Sem.run_bind, hb, Result.andThen] at hs ⊢
          simp only [Extern.Bytes.bytesOf, Sem.run_pure] at hs
          exact hs
        rw [this]
        rfl
      · have := indexByte_bd (strOfBytes xs) cc.toNat.toUInt8
        have h3 := q.le
        have h4 := q.max
        have h5 : (strOfBytes xs).length = xs.length := by simp [strOfBytes]
        generalize Lib.indexByte (strOfBytes xs) cc.toNat.toUInt8 = k at this ⊢
        simp only [RV, true_and, IntKind.min, IntKind.max, IntKind.signed, IntKind.bits]
        unfold maxLen at h4
        constructor <;> simp <;> omega
    · simp at hs
  · simp at hs
theorem xCompare_ok {P : Program} {f : FuncId} {fn : Func} (hf : P.funcs[f]? = some fn) (hname : (fn.name == "runtime.NumGoroutine") = false) (hb : fn.body.isNone = true) (hn : Extern.findNext fn = none)
    (he : Extern.find fn = some Extern.BytealgCompare.compare) : XOk P f xCompare := by
  refine ⟨fun C w g h fresh args vals c v news hP R hv hs hc => ?_, fun _ _ _ => rfl⟩
  simp only [xCompare] at hs
  split at hs
  · rename_i a b
    split at hs
    · rename_i xs ys hxs hys
      simp only [Option.some.injEq, Prod.mk.injEq] at hs
      obtain ⟨rfl, rfl, rfl⟩ := hs
      simp only [RVs] at hv
      obtain ⟨x, _, rfl, h1, y, _, rfl, h2, rfl⟩ := hv
      obtain ⟨A, cap, cells, q, _⟩ := viewL_sound R hxs h1
      obtain ⟨A', cap', cells', q', _⟩ := viewL_sound R hys h2
      refine ⟨.int .i64 (Lib.compareBytes (strOfBytes xs) (strOfBytes ys)), ?_, QRes.pure ?_⟩
      · rw [run_callFunc_extern hf hname hb hn he]
        have : (Extern.BytealgCompare.compare [x, y].toArray).run P w = .ok (.int .i64 (Lib.compareBytes (strOfBytes xs) (strOfBytes ys))) w := by
          change Sem.run P (do pure (goInt (Extern.BytealgCompare.cmp (← Extern.Bytes.bytesOf x) (← Extern.Bytes.bytesOf y)))) w = _
          simp only [Sem.run_bind, run_bytesOfSlice (P := P) q, run_bytesOfSlice (P := P) q', Result.andThen, Sem.run_pure]
          rw [Lib.cmp_eq]
          rfl
        rw [this]
        rfl
      · have := compareBytes_bd (strOfBytes xs) (strOfBytes ys)
        generalize Lib.compareBytes (strOfBytes xs) (strOfBytes ys) = k at this ⊢
        simp only [RV, true_and, IntKind.min, IntKind.max, IntKind.signed, IntKind.bits]
        constructor <;> simp <;> omega
    · simp at hs
  · simp at hs
end Go.Eng
