/- The contracts of the law's own makers: catalog, commits, entries. Own work. -/
import Derived.Test.YtjhnabdcmfjeoaaGreatDoorYL
import Derived.Test.YtjhnabdcmfjeoaaGreatDoorYK
import Derived.WalkKit
import Derived.LaidEql
import Derived.Stop.Asserts
import Derived.RowKitTokens
set_option linter.unusedSimpArgs false
set_option linter.unusedVariables false
namespace Go.Proofs.YtjhnabdcmfjeoaaGreatDoor.Ab
open Go

set_option maxRecDepth 20000
theorem twin2_ok (gl : Nat → AV) (l : List V) (o : Option (Nat × Own)) (hl : l.length ≤ 2 ^ 40) : PureA Tryz.prog gl 22 [.lst 4 (vsA l) o] (.lst 4 (vsA l) none) := by
  refine PureA.ofSub ?_
  refine calls_of_code (C := ⟨Tryz.prog, gl, 7, []⟩) (fn := Tryz.f22) rfl rfl rfl (by simp) (vc_sound _ _ _ _ ?_)
  simp [Tryz.f22]
  exact ⟨by omega, by omega, fun q => Sub.drop _ _ _⟩

theorem catalog_ok (gl : Nat → AV) (m : Int) (hm : GInt gl 1 m) (l : List Tb) (o : Option (Nat × Own)) (hl : l.length ≤ 2 ^ 30) (hc : ∀ t ∈ l, t.cols.length ≤ 2 ^ 30) :
    PureA Tryz.prog gl 5 [.lst 2 (tsA l) o] (if newE l = 0 then catA l else .s (.pointer none)) := by
  refine CallsA.letgo ?_
  refine calls_of_code (C := ⟨Tryz.prog, gl, 36, []⟩) (fn := Tryz.f5) rfl rfl rfl (by simp) (vc_sound _ _ _ _ ?_)
  simp [Tryz.f5]
  refine W_nilOwn 3 59 2 27 (by simp) ?_
  obtain ⟨I, hI⟩ : ∃ I : Nat → Env → AHeap → Prop, I = fun k E H => ∃ (i : Nat) (q : Own), k = l.length - i ∧ i ≤ l.length ∧ E 4 = .s (.int .i64 i) ∧ E 0 = .lst 2 (tsA l) o ∧ Sub (E 3) (.lst 2 (tsA (l.take i)) (some (27, q))) ∧
    H = [(27, .own 59 2 i q)] := ⟨_, rfl⟩
  refine W_loopN [27] (by decide) I l.length ?_ ?_
  · rw [hI]
    exact ⟨0, .nil, rfl, by omega, by simp, by simp [argE], by simp [tsA]; exact Sub.refl _, by simp⟩
  · intro k E H hi0
    rw [hI] at hi0
    obtain ⟨i, q, rfl, hi, h4, h0, hs3, rfl⟩ := hi0
    refine W_slot 3 _ hs3 ?_
    obtain ⟨F, hF⟩ : ∃ F, F = upd E 3 (.lst 2 (tsA (l.take i)) (some (27, q))) := ⟨_, rfl⟩
    have h3 : F 3 = .lst 2 (tsA (l.take i)) (some (27, q)) := by rw [hF]; simp
    replace h4 : F 4 = .s (.int .i64 i) := by rw [hF]; simp [h4]
    replace h0 : F 0 = .lst 2 (tsA l) o := by rw [hF]; simp [h0]
    rw [← hF]
    clear hF hs3
    refine vc_sound _ _ _ _ ?_
    cases hd : l.drop i with
    | nil =>
      have : i = l.length := by have := List.drop_eq_nil_iff.1 hd; omega
      subst this
      rw [List.take_length] at h3
      simp [h4, h0, h3]
      refine (tbNew_ok gl m hm l _).use ?_
      unfold newR
      by_cases he : newE l = 0
      · simp [he, catA]
      · simp [he]
    | cons t r =>
      obtain ⟨hlt, hg, hga, hdr, hm'⟩ := tsA_get hd
      have hgi := (List.getElem?_eq_some_iff.1 hga).2
      have e2 : IntKind.i64.wrap ((i : Int) + 1) = (i : Int) + 1 := wrap_i64_in _ (by omega) (by omega)
      have hcl := hc t hm'
      simp only [tA, strV] at hgi
      simp [h4, h0, h3, hlt, hgi, e2]
      have hmn : min i l.length = i := by omega
      refine fun b5 => ⟨by omega, by omega, fun q1 => ⟨by decide, by omega, by omega, by omega, fun q' => ⟨l.length - (i + 1), by omega, ?_⟩⟩⟩
      rw [hI]
      have htk : l.take (i + 1) = l.take i ++ [t] := by rw [List.take_add_one, hg]; rfl
      refine ⟨i + 1, q', rfl, by omega, by simp, by simp [h0], ?_, by simp [hmn]⟩
      rw [htk]
      simp
      rw [show tsA (l.take i ++ [t]) = tsA (l.take i) ++ [tA t] by simp [tsA]]
      exact Sub.snoc (SubC.cons (Sub.refl _) (SubC.cons (Sub.drop _ _ _) SubC.nil))

theorem done_ok (gl : Nat → AV) (d : Dn) (h1 : d.deps.length ≤ 2 ^ 30) (h2 : d.writes.length ≤ 2 ^ 30) (h3 : ∀ w ∈ d.writes, w.row.length ≤ 2 ^ 30) : PureA Tryz.prog gl 8 [dA d] (dA d) := by
  refine PureA.ofSub ?_
  refine calls_of_code (C := ⟨Tryz.prog, gl, 40, []⟩) (fn := Tryz.f8) rfl rfl rfl (by simp) (vc_sound _ _ _ _ ?_)
  simp [Tryz.f8, dA]
  intro b2 b3
  refine ⟨by omega, by omega, fun q => ?_⟩
  refine W_pick [3, 2] (by decide) ?_
  simp
  refine W_nilCell (k := 3) (U := 68) (sz := 3) (L := 37) rfl ?_
  obtain ⟨I, hI⟩ : ∃ I : Nat → Env → AHeap → Prop, I = fun k E H => ∃ (i : Nat) (p : Own), k = d.writes.length - i ∧ i ≤ d.writes.length ∧ E 4 = .s (.int .i64 i) ∧ E 1 = .rp [.s (.int .i64 d.label), .s (.int .i64 d.number), .lst 1 (intsA d.deps) none, .lst 3 (wsA d.writes) none] ∧ E 3 = .ptr 3 b3 0 ∧ E 2 = .ptr 2 b2 0 ∧
    H = [(37, .own 68 3 i p), (3, .box b3 35 [.s (.int .i64 d.label), .s (.int .i64 d.number), .lst 1 (intsA d.deps) (some (15, q)), .lst 3 (wsA (d.writes.take i)) (some (37, p))]), (2, .box b2 35 [.s (.int .i64 0), .s (.int .i64 0), .s (.slice none 0 0), .s (.slice none 0 0)])] := ⟨_, rfl⟩
  refine W_loopN [37, 3, 2] (by decide) I d.writes.length ?_ ?_
  · rw [hI]
    exact ⟨0, .nil, rfl, by omega, by simp, by simp, by simp, by simp, by simp [wsA]⟩
  · intro k E H hi0
    rw [hI] at hi0
    obtain ⟨i, p, rfl, hi, e4, e1, e3, e2, rfl⟩ := hi0
    refine vc_sound _ _ _ _ ?_
    cases hd : d.writes.drop i with
    | nil =>
      have : i = d.writes.length := by have := List.drop_eq_nil_iff.1 hd; omega
      subst this
      simp [e4, e1, e3, e2]
      exact SubC.agg (SubC.cons (Sub.refl _) (SubC.cons (Sub.refl _) (SubC.cons (Sub.drop _ _ _) (SubC.cons (Sub.drop _ _ _) SubC.nil))))
    | cons w r =>
      obtain ⟨hlt, hg, hga, hdr, hm'⟩ := wsA_get hd
      have hgi := (List.getElem?_eq_some_iff.1 hga).2
      have ew : IntKind.i64.wrap ((i : Int) + 1) = (i : Int) + 1 := wrap_i64_in _ (by omega) (by omega)
      have hrl := h3 w hm'
      simp only [wA, strV] at hgi
      simp [e4, e1, e3, e2, hlt, hgi]
      refine fun b5 => (twin2_ok gl w.row none (by omega)).use ?_
      have hmn : min i d.writes.length = i := by omega
      have htk : d.writes.take (i + 1) = d.writes.take i ++ [w] := by rw [List.take_add_one, hg]; rfl
      simp [e4, e1, e3, e2, hlt, hgi, ew]
      refine ⟨by decide, by omega, by omega, by omega, fun q' => ⟨d.writes.length - (i + 1), by omega, ?_⟩⟩
      rw [hI]
      refine ⟨i + 1, q', rfl, by omega, by simp, by simp [e1], by simp [e3], by simp [e2], ?_⟩
      rw [htk]
      simp [hmn, wsA, wA, strV]

theorem entry_ok (gl : Nat → AV) (e : En) (h1 : e.lines.length ≤ 2 ^ 30) (h2 : ∀ l ∈ e.lines, l.length ≤ 2 ^ 30) : PureA Tryz.prog gl 17 [enA e] (enA e) := by
  refine PureA.ofSub ?_
  refine calls_of_code (C := ⟨Tryz.prog, gl, 27, []⟩) (fn := Tryz.f17) rfl rfl rfl (by simp) (vc_sound _ _ _ _ ?_)
  simp [Tryz.f17, enA]
  intro b2 b3
  refine W_pick [3, 2] (by decide) ?_
  simp
  refine W_nilCell (k := 1) (U := 64) (sz := 1) (L := 24) rfl ?_
  obtain ⟨I, hI⟩ : ∃ I : Nat → Env → AHeap → Prop, I = fun k E H => ∃ (i : Nat) (p : Own), k = e.lines.length - i ∧ i ≤ e.lines.length ∧ E 4 = .s (.int .i64 i) ∧ E 1 = .rp [.s (strV e.view), .lst 1 (linesA e.lines) none] ∧ E 3 = .ptr 3 b3 0 ∧ E 2 = .ptr 2 b2 0 ∧
    H = [(24, .own 64 1 i p), (3, .box b3 50 [.s (strV e.view), .lst 1 (linesA (e.lines.take i)) (some (24, p))]), (2, .box b2 50 [.s (strV []), .s (.slice none 0 0)])] := ⟨_, rfl⟩
  refine W_loopN [24, 3, 2] (by decide) I e.lines.length ?_ ?_
  · rw [hI]
    exact ⟨0, .nil, rfl, by omega, by simp, by simp [strV], by simp, by simp, by simp [linesA, strV]⟩
  · intro k E H hi0
    rw [hI] at hi0
    obtain ⟨i, p, rfl, hi, e4, e1, e3, e2, rfl⟩ := hi0
    refine vc_sound _ _ _ _ ?_
    cases hd : e.lines.drop i with
    | nil =>
      have : i = e.lines.length := by have := List.drop_eq_nil_iff.1 hd; omega
      subst this
      simp [e4, e1, e3, e2, strV]
      exact SubC.agg (SubC.cons (Sub.refl _) (SubC.cons (Sub.drop _ _ _) SubC.nil))
    | cons w r =>
      obtain ⟨hlt, hg, hga, hdr, hm'⟩ := linesA_get hd
      have hgi := (List.getElem?_eq_some_iff.1 hga).2
      have ew : IntKind.i64.wrap ((i : Int) + 1) = (i : Int) + 1 := wrap_i64_in _ (by omega) (by omega)
      have hrl := h2 w hm'
      simp only [lineA] at hgi
      simp [e4, e1, e3, e2, hlt, hgi]
      refine W_chunks [([0, 1, 2, 3, 4, 5, 6], 7, [1, 3]), ([8], 9, [3, 6]), ([10], 11, [])] [] hmix (by kernel_rfl) (by kernel_rfl) (by decide) ?_
      simp [e4, e1, e3, e2, hlt, hgi]
      refine (twin2_ok gl w none (by omega)).use ?_
      have hmn : min i e.lines.length = i := by omega
      have htk : e.lines.take (i + 1) = e.lines.take i ++ [w] := by rw [List.take_add_one, hg]; rfl
      simp [e4, e1, e3, e2, hlt, hgi, ew, pureG, pureO, opVal]
      refine ⟨by decide, by omega, by omega, by omega, fun q' => ⟨e.lines.length - (i + 1), by omega, ?_⟩⟩
      rw [hI]
      refine ⟨i + 1, q', rfl, by omega, by simp, by simp [e1], by simp [e3], by simp [e2], ?_⟩
      rw [htk]
      simp [hmn, linesA, lineA, strV]
end Go.Proofs.YtjhnabdcmfjeoaaGreatDoor.Ab
/- errors.As at a whole-number error: the closed facts and the walk, after the kit's worked example; the contract of the law's num. Own work and lines of a worked proof turned to this claim. -/
set_option linter.unusedSimpArgs false
set_option linter.unusedVariables false
namespace Go.Proofs.YtjhnabdcmfjeoaaGreatDoor.Ab
open Go Go.RowKit Go.Extern.Stop Go.Stop Go.Extern

theorem valueOfP (t : Addr) (w : World) : (ReflectliteValue.unpack (.iface 96 (.pointer (some t)))).run Tryz.prog w
    = .ok (.agg #[.pointer (some ⟨2, 96, none⟩), .pointer (some ⟨w.heap.size, 0, none⟩), .int .u64 150]) (w.alloc (.cells #[.pointer (some t)] 96)) := by kernel_rfl
theorem typeP (a : Addr) (w : World) : (ReflectliteValue.methodAny (ReflectliteValue.valueError "reflectlite.Value.Type" 0) (fun t _ _ _ => ReflectliteType.toType t) #[.agg #[.pointer (some ⟨2, 96, none⟩), .pointer (some a), .int .u64 150]]).run Tryz.prog w
    = .ok (.iface 158 (.agg #[.pointer (some ⟨2, 96, none⟩)])) w := by kernel_rfl
theorem methodKind (h : Value) (w : World) : (Go.method 327 158 (.agg #[h]) "Kind").run Tryz.prog w = .ok (124, h) w := by kernel_rfl
theorem kindP (w : World) : ((ReflectliteType.abiMethod fun t => (fun a : Nat => Value.int IntKind.u8 (a : Int)) <$> Rtype.kind t) #[.pointer (some ⟨2, 96, none⟩)]).run Tryz.prog w = .ok (.int .u8 22) w := by kernel_rfl
theorem kindE (w : World) : ((ReflectliteType.abiMethod fun t => (fun a : Nat => Value.int IntKind.u8 (a : Int)) <$> Rtype.kind t) #[.pointer (some ⟨2, 65, none⟩)]).run Tryz.prog w = .ok (.int .u8 2) w := by kernel_rfl
theorem rlm (z : Sem Value) (f : TypeId → Addr → Nat → Nat → Sem Value) (v : Value) :
    ReflectliteValue.method z f #[v] = (do match ← ReflectliteValue.parts v with | none => z | some (t, a, fl) => f t a fl (fl % 32)) := rfl
theorem partsP (a : Addr) (w : World) : (ReflectliteValue.parts (.agg #[.pointer (some ⟨2, 96, none⟩), .pointer (some a), .int .u64 150])).run Tryz.prog w = .ok (some (96, a, 150)) w := by kernel_rfl
theorem isNilP (a p : Addr) (W : World) (ha : W.cell? a = some (.pointer (some p))) :
    (ReflectliteValue.method (ReflectliteValue.valueError "reflectlite.Value.IsNil" 0) ReflectliteValue.isNil #[.agg #[.pointer (some ⟨2, 96, none⟩), .pointer (some a), .int .u64 150]]).run Tryz.prog W = .ok (.bool false) W := by
  rw [rlm]
  simp only [Sem.run_bind, partsP, Result.andThen]
  simp [ReflectliteValue.isNil, loadVar, isAgg, underlying, Tryz.underlying96, ha, Result.andThen]
theorem methodElem (h : Value) (w : World) : (Go.method 327 158 (.agg #[h]) "Elem").run Tryz.prog w = .ok (135, .agg #[h]) w := by kernel_rfl
theorem methodImplements (h : Value) (w : World) : (Go.method 327 158 (.agg #[h]) "Implements").run Tryz.prog w = .ok (136, .agg #[h]) w := by kernel_rfl
theorem methodAssignableTo (h : Value) (w : World) : (Go.method 327 158 (.agg #[h]) "AssignableTo").run Tryz.prog w = .ok (133, .agg #[h]) w := by kernel_rfl
theorem elemP (w : World) : (ReflectliteType.method ReflectliteType.elem #[.agg #[.pointer (some ⟨2, 96, none⟩)]]).run Tryz.prog w = .ok (.iface 158 (.agg #[.pointer (some ⟨2, 65, none⟩)])) w := by kernel_rfl
theorem implementsE (w : World) : (ReflectliteType.relation "Implements" ReflectliteType.implements_ #[.agg #[.pointer (some ⟨2, 65, none⟩)], .iface 158 (.agg #[.pointer (some ⟨2, 32, none⟩)])]).run Tryz.prog w = .ok (.bool true) w := by kernel_rfl
theorem typeOfE (v : Value) (w : World) : (ReflectliteType.typeOf #[.iface 65 v]).run Tryz.prog w = .ok (.iface 158 (.agg #[.pointer (some ⟨2, 65, none⟩)])) w := by kernel_rfl
theorem assignableE (w : World) : (ReflectliteType.relation "AssignableTo" ReflectliteType.assignableTo #[.agg #[.pointer (some ⟨2, 65, none⟩)], .iface 158 (.agg #[.pointer (some ⟨2, 65, none⟩)])]).run Tryz.prog w = .ok (.bool true) w := by kernel_rfl
theorem valueOfE (n : Int) (w : World) : (ReflectliteValue.unpack (.iface 65 (.int .i64 n))).run Tryz.prog w
    = .ok (.agg #[.pointer (some ⟨2, 65, none⟩), .pointer (some ⟨w.heap.size, 0, none⟩), .int .u64 130]) (w.alloc (.cells #[.int .i64 n] 65)) := by kernel_rfl
theorem elemOfP (w : World) : (Rtype.elem? 96).run Tryz.prog w = .ok (some 65) w := by kernel_rfl
theorem mkE (p : Addr) (w : World) : (ReflectliteValue.mk 65 p ReflectliteValue.flagAddr).run Tryz.prog w = .ok (.agg #[.pointer (some ⟨2, 65, none⟩), .pointer (some p), .int .u64 386]) w := by kernel_rfl
theorem elemVP (a p : Addr) (W : World) (ha : W.cell? a = some (.pointer (some p))) :
    (ReflectliteValue.method (ReflectliteValue.valueError "reflectlite.Value.Elem" 0) ReflectliteValue.elem #[.agg #[.pointer (some ⟨2, 96, none⟩), .pointer (some a), .int .u64 150]]).run Tryz.prog W
      = .ok (.agg #[.pointer (some ⟨2, 65, none⟩), .pointer (some p), .int .u64 386]) W := by
  rw [rlm]
  simp only [Sem.run_bind, partsP, Result.andThen]
  simp [ReflectliteValue.elem, loadVar, isAgg, underlying, Tryz.underlying96, ha, Result.andThen, elemOfP, mkE]
theorem rls (v x : Value) : ReflectliteValue.set #[v, x] = (do
    let (some (dst, a, fl), some (src, b, _)) := (← ReflectliteValue.parts v, ← ReflectliteValue.parts x)
      | unsupported (.noEntry "extern/(internal/reflectlite.Value).Set.zeroValue")
    if fl / ReflectliteValue.flagAddr % 2 == 0 then unsupported (.noEntry "extern/(internal/reflectlite.Value).Set.unaddressable")
    let val ← loadVar src b
    if ← Rtype.directlyAssignable dst src then storeVar dst a val
    else if ← Rtype.implements dst src then
      if (← Rtype.kind src) == 20 then
        match val with
        | .nilIface => unsupported (.noEntry "extern/reflectlite: a nil value of one interface type handed on as a value of another")
        | _ => storeVar dst a val
      else storeVar dst a (.iface src val)
    else panicString ("reflectlite.Set: value of type " ++ (← Rtype.spelt src) ++ " is not assignable to type " ++ (← Rtype.spelt dst))
    pure (.tuple #[])) := rfl
theorem partsEa (a : Addr) (w : World) : (ReflectliteValue.parts (.agg #[.pointer (some ⟨2, 65, none⟩), .pointer (some a), .int .u64 386])).run Tryz.prog w = .ok (some (65, a, 386)) w := by kernel_rfl
theorem partsE (a : Addr) (w : World) : (ReflectliteValue.parts (.agg #[.pointer (some ⟨2, 65, none⟩), .pointer (some a), .int .u64 130])).run Tryz.prog w = .ok (some (65, a, 130)) w := by kernel_rfl
theorem directE (w : World) : (Rtype.directlyAssignable 65 65).run Tryz.prog w = .ok true w := by kernel_rfl
theorem setE (ta b : Addr) (n : Int) (old : Value) (W : World) (hb : W.cell? b = some (.int .i64 n)) (ht : W.cell? ta = some old) (hf : W.frozen? ta = false) :
    (ReflectliteValue.set #[.agg #[.pointer (some ⟨2, 65, none⟩), .pointer (some ta), .int .u64 386], .agg #[.pointer (some ⟨2, 65, none⟩), .pointer (some b), .int .u64 130]]).run Tryz.prog W
      = .ok (.tuple #[]) (W.setCell ta (.int .i64 n)) := by
  rw [rls]
  simp only [Sem.run_bind, partsEa, partsE, Result.andThen]
  simp [ReflectliteValue.flagAddr, loadVar, isAgg, underlying, Tryz.underlying65, hb, Result.andThen, directE, storeVar, Value.cells, storeCells, Addr.add]
  rw [run_store Tryz.prog W ta _ _ (by rfl)]
  simp [ht, hf]

set_option maxRecDepth 100000 in
set_option maxHeartbeats 4000000 in
theorem as_hit (n : Int) (t : Addr) (old : Value) (w : World) (hg : w.cell? ⟨0, 0, none⟩ = some (.iface 158 (.agg #[.pointer (some ⟨2, 32, none⟩)]))) (ht0 : w.cell? t = some old) (hf0 : w.frozen? t = false) :
    Calls Tryz.prog 37 #[.iface 65 (.int .i64 n), .iface 96 (.pointer (some t))] w fun ev w' => ev = .returned (.bool true) ∧ w' = ((((w.alloc (.cells #[.pointer (some t)] 96)).alloc (.cells #[.pointer (some ⟨2, 96, none⟩), .pointer (some ⟨w.heap.size, 0, none⟩), .int .u64 150] 137)).alloc (.cells #[.pointer (some ⟨2, 96, none⟩), .pointer (some ⟨w.heap.size, 0, none⟩), .int .u64 150] 137)).alloc (.cells #[.int .i64 n] 65)).setCell t (.int .i64 n) := by
  have h6 := @run_callFunc_extern Tryz.prog 62 _ (fun args => ReflectliteValue.unpack (args.getD 0 (.tuple #[]))) Tryz.func62 (by kernel_rfl) (by kernel_rfl) (by kernel_rfl) (by kernel_rfl)
  have h7 := @run_callFunc_extern Tryz.prog 63 _ (ReflectliteValue.methodAny (ReflectliteValue.valueError "reflectlite.Value.Type" 0) (fun t _ _ _ => ReflectliteType.toType t)) Tryz.func63 (by kernel_rfl) (by kernel_rfl) (by kernel_rfl) (by kernel_rfl)
  have h8 := @run_callFunc_extern Tryz.prog 64 _ (ReflectliteValue.method (ReflectliteValue.valueError "reflectlite.Value.IsNil" 0) ReflectliteValue.isNil) Tryz.func64 (by kernel_rfl) (by kernel_rfl) (by kernel_rfl) (by kernel_rfl)
  have h27 := @run_callFunc_extern Tryz.prog 124 _ (ReflectliteType.abiMethod fun t => do pure (.int .u8 (← Rtype.kind t))) Tryz.func124 (by kernel_rfl) (by kernel_rfl) (by kernel_rfl) (by kernel_rfl)
  have h37 := @run_callFunc_extern Tryz.prog 135 _ (ReflectliteType.method ReflectliteType.elem) Tryz.func135 (by kernel_rfl) (by kernel_rfl) (by kernel_rfl) (by kernel_rfl)
  have h38 := @run_callFunc_extern Tryz.prog 136 _ (ReflectliteType.relation "Implements" ReflectliteType.implements_) Tryz.func136 (by kernel_rfl) (by kernel_rfl) (by kernel_rfl) (by kernel_rfl)
  have h10 := @run_callFunc_extern Tryz.prog 79 _ ReflectliteType.typeOf Tryz.func79 (by kernel_rfl) (by kernel_rfl) (by kernel_rfl) (by kernel_rfl)
  have h35 := @run_callFunc_extern Tryz.prog 133 _ (ReflectliteType.relation "AssignableTo" ReflectliteType.assignableTo) Tryz.func133 (by kernel_rfl) (by kernel_rfl) (by kernel_rfl) (by kernel_rfl)
  have h11 := @run_callFunc_extern Tryz.prog 80 _ (ReflectliteValue.method (ReflectliteValue.valueError "reflectlite.Value.Elem" 0) ReflectliteValue.elem) Tryz.func80 (by kernel_rfl) (by kernel_rfl) (by kernel_rfl) (by kernel_rfl)
  have h12 := @run_callFunc_extern Tryz.prog 81 _ ReflectliteValue.set Tryz.func81 (by kernel_rfl) (by kernel_rfl) (by kernel_rfl) (by kernel_rfl)
  have tO := typeOfE
  have mA := methodAssignableTo
  have a25 := assignableE
  have v25 := valueOfE
  have f6 := valueOfP
  have f7 := typeP
  have mK := methodKind
  have mE := methodElem
  have mI := methodImplements
  have k27 := kindP
  have k25 := kindE
  have e27 := elemP
  have i25 := implementsE
  have n8 := isNilP ⟨w.heap.size, 0, none⟩ t ((w.alloc (.cells #[.pointer (some t)] 96)).alloc (.cells #[.pointer (some ⟨2, 96, none⟩), .pointer (some ⟨w.heap.size, 0, none⟩), .int .u64 150] 137)) (by simp)
  have hlt : 0 < w.heap.size := by
    rcases Nat.eq_zero_or_pos w.heap.size with h0 | h
    · simp [World.cell?, h0] at hg
    · exact h
  have hg2 : ((w.alloc (.cells #[.pointer (some t)] 96)).alloc (.cells #[.pointer (some ⟨2, 96, none⟩), .pointer (some ⟨w.heap.size, 0, none⟩), .int .u64 150] 137)).cell? ⟨0, 0, none⟩ = some (.iface 158 (.agg #[.pointer (some ⟨2, 32, none⟩)])) := by
    rw [World.cell?_alloc_lt _ _ ⟨0, 0, none⟩ (by simp), World.cell?_alloc_lt _ _ ⟨0, 0, none⟩ hlt]; exact hg
  have htl : t.block < w.heap.size := by
    rcases Nat.lt_or_ge t.block w.heap.size with h | h
    · exact h
    · simp [World.cell?, Array.getElem?_eq_none h] at ht0
  have el := elemVP ⟨w.heap.size, 0, none⟩ t (((w.alloc (.cells #[.pointer (some t)] 96)).alloc (.cells #[.pointer (some ⟨2, 96, none⟩), .pointer (some ⟨w.heap.size, 0, none⟩), .int .u64 150] 137)).alloc (.cells #[.pointer (some ⟨2, 96, none⟩), .pointer (some ⟨w.heap.size, 0, none⟩), .int .u64 150] 137)) (by rw [World.cell?_alloc_lt _ _ ⟨w.heap.size, 0, none⟩ (by simp; omega)]; simp)
  have st := setE t ⟨w.heap.size + 1 + 1 + 1, 0, none⟩ n old ((((w.alloc (.cells #[.pointer (some t)] 96)).alloc (.cells #[.pointer (some ⟨2, 96, none⟩), .pointer (some ⟨w.heap.size, 0, none⟩), .int .u64 150] 137)).alloc (.cells #[.pointer (some ⟨2, 96, none⟩), .pointer (some ⟨w.heap.size, 0, none⟩), .int .u64 150] 137)).alloc (.cells #[.int .i64 n] 65))
    (by rw [World.cell?_alloc_at _ _ _ _ (by simp)]; rfl)
    (by rw [World.cell?_alloc_lt _ _ t (by simp; omega), World.cell?_alloc_lt _ _ t (by simp; omega), World.cell?_alloc_lt _ _ t (by simp; omega), World.cell?_alloc_lt _ _ t htl]; exact ht0)
    (by rw [World.frozen?_alloc_old _ _ t (by simp; omega), World.frozen?_alloc_old _ _ t (by simp; omega), World.frozen?_alloc_old _ _ t (by simp; omega), World.frozen?_alloc_old _ _ t (Nat.ne_of_lt htl)]; exact hf0)
  go_enter Tryz.func37, Tryz.ntmps37
  go_wp2
  refine wp_loop_rounds 1 ?_
  rw [rounds_succ]
  go_wp2
  go_ret
  exact ⟨rfl, rfl⟩
end Go.Proofs.YtjhnabdcmfjeoaaGreatDoor.Ab
/- The contract of the law's num. Own work. -/
set_option linter.unusedSimpArgs false
set_option linter.unusedVariables false
namespace Go.Proofs.YtjhnabdcmfjeoaaGreatDoor.Ab
open Go

/-- What is known of errors.errorType. -/
def GErr (gl : Nat → AV) : Prop := gl 0 = .rp [.s (.iface 158 (.agg #[.pointer (some ⟨2, 32, none⟩)]))]
theorem GErr.cell {gl : Nat → AV} {im : Im} {w : World} (h : GErr gl) (hg : RepG im gl) (hi : Imr im w) : w.cell? ⟨0, 0, none⟩ = some (.iface 158 (.agg #[.pointer (some ⟨2, 32, none⟩)])) := by
  have := hg 0
  rw [h] at this
  cases this with
  | rp _ _ _ f h1 h2 =>
    have e := hi.c 0 (0 + 0) (f 0) (h1 0 _ rfl)
    have := sInv (h2 0 _ rfl)
    rw [this] at e
    exact e.1

set_option maxRecDepth 20000
theorem store1 (W : World) (b : Nat) (n : Int) (cs : Array Value) (hw : W.heap[b]? = some (.cells cs 65 (0, 0))) (hsz : cs.size = 1) :
    (Instr.storeAt 65 (.pointer (some ⟨b, 0, none⟩)) (.int .i64 n)).run Tryz.prog W = .ok () (W.setCell ⟨b, 0, none⟩ (.int .i64 n)) := by
  have hcell : W.cell? ⟨b, 0, none⟩ = some cs[0] := by simp [World.cell?, hw, hsz]
  have hfz : W.frozen? ⟨b, 0, none⟩ = false := by simp [World.frozen?, hw]
  have hs : ((tyI Tryz.prog 65).size) = 1 := by simp
  simp only [Instr.storeAt, Instr.sureAddr, storeVar, pure_bind, Sem.run_bind, run_sizeOf' (P := Tryz.prog) (t := 65) (by show 0 < (tyI Tryz.prog 65).size; rw [hs]; decide), Result.andThen_ok]
  rw [show Tryz.prog.cellsOf 65 = 1 from hs]
  simp [Value.cells, storeCells, Addr.add]
  rw [run_store Tryz.prog W ⟨b, 0, none⟩ _ _ (by rfl)]
  simp [hcell, hfz]

theorem as_ok (gl : Nat → AV) (hge : GErr gl) (n : Int) (l b : Nat) (x : AV) :
    CallsA Tryz.prog gl 37 [.s (.iface 65 (.int .i64 n)), .s (.iface 96 (.pointer (some ⟨b, 0, none⟩)))] [(l, .box b 65 [x])]
      fun av H => av = .s (.bool true) ∧ H = [(l, .box b 65 [.s (.int .i64 n)])] := by
  intro im w vs h1 h2 h3
  have hvs := RepL.vals (us := [.iface 65 (.int .i64 n), .iface 96 (.pointer (some ⟨b, 0, none⟩))]) h1
  subst hvs
  obtain ⟨cs, hw, hsz, hrep, hn⟩ := h2.own _ (List.mem_singleton.2 rfl)
  have hsz' : cs.size = 1 := hsz
  have hcell : w.cell? ⟨b, 0, none⟩ = some cs[0] := by simp [World.cell?, hw, hsz']
  have hfz : w.frozen? ⟨b, 0, none⟩ = false := by simp [World.frozen?, hw]
  refine (as_hit n ⟨b, 0, none⟩ cs[0] w (hge.cell h3 h2.imr) hcell hfz).mono ?_
  rintro e w' ⟨rfl, rfl⟩
  refine ⟨_, im, .s (.bool true), _, rfl, ?_, .s _, rfl, rfl⟩
  have k1 := h2.stepNone (Ok.alloc h2.imr (.cells #[.pointer (some ⟨b, 0, none⟩)] 96))
  have k2 := k1.stepNone (Ok.alloc k1.imr (.cells #[.pointer (some ⟨2, 96, none⟩), .pointer (some ⟨w.heap.size, 0, none⟩), .int .u64 150] 137))
  have k3 := k2.stepNone (Ok.alloc k2.imr (.cells #[.pointer (some ⟨2, 96, none⟩), .pointer (some ⟨w.heap.size, 0, none⟩), .int .u64 150] 137))
  have k4 := k3.stepNone (Ok.alloc k3.imr (.cells #[.int .i64 n] 65))
  simp only [List.nil_append] at k4
  obtain ⟨w2, hr, hok⟩ := store_goes (P := Tryz.prog) (t := 65) (l := l) (x := .s (.int .i64 n)) (u := .int .i64 n) (off := 0) k4.imr (k4.own _ (List.mem_singleton.2 rfl)) rfl (.s _) (by simp) (by simp) (by simp)
  generalize (((w.alloc (.cells #[.pointer (some ⟨b, 0, none⟩)] 96)).alloc (.cells #[.pointer (some ⟨2, 96, none⟩), .pointer (some ⟨w.heap.size, 0, none⟩), .int .u64 150] 137)).alloc (.cells #[.pointer (some ⟨2, 96, none⟩), .pointer (some ⟨w.heap.size, 0, none⟩), .int .u64 150] 137)).alloc (.cells #[.int .i64 n] 65) = W at k4 hr hok ⊢
  have hok' : Ok (here im w [(l, .box b 65 [x])]) im w2 [(l, .box b 65 (putCells [x] 0 [.s (.int .i64 n)]))] := by
    have := Ok.step (F := []) (by simpa using k4) hok
    simpa using this
  obtain ⟨cs4, hw4, hsz4, _⟩ := k4.own _ (List.mem_singleton.2 rfl)
  have hw2 : w2 = W.setCell ⟨b, 0, none⟩ (.int .i64 n) := by
    rw [store1 W b n cs4 hw4 hsz4] at hr
    cases hr; rfl
  rw [← hw2]
  simpa [putCells] using hok'

theorem num_ok (gl : Nat → AV) (hge : GErr gl) (n : Nat) (hn : n < 2 ^ 63) : PureA Tryz.prog gl 12 [errA n] (.s (.int .i64 n)) := by
  refine CallsA.letgo ?_
  refine calls_of_code (C := ⟨Tryz.prog, gl, 10, []⟩) (fn := Tryz.f12) rfl rfl rfl (by simp) (vc_sound _ _ _ _ ?_)
  by_cases h0 : n = 0
  · subst h0
    simp [Tryz.f12]
  · have hne : errA n = .s (.iface 65 (.int .i64 n)) := errA_pos n h0
    rw [hne]
    simp [Tryz.f12]
    intro b3
    refine (as_ok gl hge n 3 b3 _).mono ?_
    rintro av H ⟨rfl, rfl⟩
    simp
end Go.Proofs.YtjhnabdcmfjeoaaGreatDoor.Ab
/- The contract of the law's sure. Own work. -/
set_option linter.unusedSimpArgs false
set_option linter.unusedVariables false
namespace Go.Proofs.YtjhnabdcmfjeoaaGreatDoor.Ab
open Go

def v0 : V := ⟨1, 1, [], false⟩
def e0 : En := ⟨[118], [[v0]]⟩
theorem e0_name : nameB [118] = true := by decide +kernel
theorem e0_ord : (ordE [v0]).2 = 0 := by decide +kernel
theorem e0_enc : (encEn e0).2 = 0 := by
  unfold encEn
  rw [if_neg (by simp [e0, e0_name])]
  simp [e0, linesR, e0_ord]
theorem e0_fits : e0.fits := ⟨by decide, fun l hl => by
  simp [e0] at hl; subst hl
  exact ⟨by decide, fun v hv => by simp at hv; subst hv; exact ⟨by decide, by decide, by decide, by decide, by decide⟩⟩⟩
theorem e0_bytes : ∃ r, (encEn e0).1 = 2 :: r ∧ 3 < r.length ∧ r.length < 100000 := by
  obtain ⟨_, ⟨r, hr⟩, he⟩ := decEn_back e0 e0_fits e0_enc
  refine ⟨r, hr, ?_⟩
  have h1 : (encEn e0).1.length = r.length + 1 := by rw [hr]; simp
  rw [he] at h1
  have ho := ordE_len [v0]
  have hu := uintB_pos (ordE [v0]).1.length
  have hu2 := uintB_len 9 (ordE [v0]).1.length (by omega)
  have ho2 : (ordE [v0]).1.length = 9 := by decide +kernel
  have ha := uintB_pos 1
  have ha2 := uintB_len 9 1 (by omega)
  simp [enHead, e0, linesB] at h1
  omega

set_option maxRecDepth 20000
theorem sure_ok (gl : Nat → AV) (m : Int) (hm : GInt gl 1 m) : PureA Tryz.prog gl 6 [] (.s (.bool true)) := by
  refine CallsA.letgo ?_
  refine calls_of_code (C := ⟨Tryz.prog, gl, 48, []⟩) (fn := Tryz.f6) rfl rfl rfl (by simp) (vc_sound _ _ _ _ ?_)
  simp [Tryz.f6]
  refine ⟨by decide, fun b1 => ?_⟩
  have h1 := encodeEntry_ok gl m hm e0 e0_fits
  simp only [e0_enc] at h1
  obtain ⟨r, hr, hr1, hr2⟩ := e0_bytes
  have h2 := decodeEntry_ok gl m hm (encEn e0).1 none (by rw [hr]; simp; omega)
  rw [(decEn_back e0 e0_fits e0_enc).1] at h2
  rw [hr] at h1 h2
  simp only [enA, e0, linesA, List.map_cons, List.map_nil, lineA, vsA, vA, v0] at h1 h2
  refine h1.use ?_
  simp
  refine h2.use ?_
  simp [strV, bytesA_cons]
  omega
end Go.Proofs.YtjhnabdcmfjeoaaGreatDoor.Ab
/- The contract of the law StoreBack. Own work. -/
set_option linter.unusedSimpArgs false
set_option linter.unusedVariables false
namespace Go.Proofs.YtjhnabdcmfjeoaaGreatDoor.Ab
open Go

/-- What the law's arguments must fit. -/
structure BackFits (l : List Tb) (d : Dn) (e : En) : Prop where
  len : l.length ≤ 2 ^ 20
  c : ∀ t ∈ l, t.cols.length ≤ 2 ^ 20
  dfit : d.fits
  deps : d.deps.length ≤ 2 ^ 20
  wt : wtot d.writes ≤ 2 ^ 21
  efit : e.fits
  el : ∀ l ∈ e.lines, l.length ≤ 2 ^ 20
  lt : ltot e.lines ≤ 2 ^ 21

theorem newE_32 {l : List Tb} (h : newE l = 0) : l.length ≤ 32 := by
  unfold newE at h
  split at h
  · cases h
  · omega

theorem linesR_bad : ∀ (ls : List (List V)) (b : List UInt8), (linesR ls b).2 ≠ 0 → (linesR ls b).1 = []
  | [], b, h => absurd rfl h
  | l :: ls, b, h => by
    simp only [linesR] at h ⊢
    split
    · rename_i h0; rw [if_pos h0] at h; exact linesR_bad ls _ h
    · rfl
theorem encEn_bad (e : En) (h : ¬ (encEn e).2 = 0) : (encEn e).1 = [] := by
  unfold encEn at h ⊢
  split
  · rfl
  · rename_i hn; rw [if_neg hn] at h; exact linesR_bad _ _ h

set_option maxRecDepth 20000
theorem storeBack_ok (gl : Nat → AV) (m : Int) (hm : GInt gl 1 m) (hge : GErr gl) (l : List Tb) (d : Dn) (e : En) (hf : BackFits l d e) : PureA Tryz.prog gl 4 [.lst 2 (tsA l) none, dA d, enA e] (.s (.bool true)) := by
  refine CallsA.letgo ?_
  refine calls_of_code (C := ⟨Tryz.prog, gl, 124, []⟩) (fn := Tryz.f4) rfl rfl rfl (by simp) (vc_sound _ _ _ _ ?_)
  have hl := hf.len
  have hd := hf.dfit
  simp [Tryz.f4, dA, enA]
  refine (catalog_ok gl m hm l none (by omega) (fun t ht => by have := hf.c t ht; omega)).use ?_
  by_cases hnew : newE l = 0
  · have hl32 := newE_32 hnew
    have hcols : ∀ t ∈ l, t.cols.length ≤ 2 ^ 30 := fun t ht => by have := hf.c t ht; omega
    simp [hnew, catA]
    refine (done_ok gl d (by have := hf.deps; omega) (by have := hd.wlen; omega) (fun w hw => by have := (hd.rows w hw).1; omega)).use ?_
    simp
    refine (encodeDone_ok gl l d hcols (by omega) hd).use ?_
    have hcat : AV.rp [.lst 2 (tsA l) none, .mpr (mapE l 0)] = catA l := rfl
    by_cases hE : (encD l d).2 = 0
    · have hlen := encD_tot l d hd (by omega) hf.wt hE
      obtain ⟨hdec, r, hr⟩ := decD_back l d hl32 hd hE
      simp [hE]
      rw [hcat]
      refine (decodeDone_ok gl m hm l (encD l d).1 none hlen hcols).use ?_
      rw [hdec]
      simp [dA]
      intro b10
      refine (decodeEntry_ok gl m hm (encD l d).1 none hlen).use ?_
      have h3 : (decEn (encD l d).1).2 = 3 := by rw [hr]; exact decEn_one r
      simp [enA, h3]
      intro b12
      refine (num_ok gl hge 3 (by decide)).use ?_
      simp
      refine (ints_ok gl d.deps d.deps none none (by have := hf.deps; omega)).use ?_
      simp
      refine (writes_ok gl d.writes d.writes none none (by have := hd.wlen; omega) (fun w hw => by have := (hd.rows w hw).1; omega)).use ?_
      simp
      refine (entry_ok gl e (by have := hf.efit.n; omega) (fun l hl => by have := hf.el l hl; omega)).use ?_
      simp
      refine (encodeEntry_ok gl m hm e hf.efit).use ?_
      by_cases hG : (encEn e).2 = 0
      · have hlen2 := encEn_tot e hf.efit hf.lt hG
        obtain ⟨hdec2, ⟨r2, hr2⟩, _⟩ := decEn_back e hf.efit hG
        simp [hG]
        refine (decodeEntry_ok gl m hm (encEn e).1 none hlen2).use ?_
        rw [hdec2]
        simp [enA]
        intro b16
        try rw [hcat]
        refine (decodeDone_ok gl m hm l (encEn e).1 none hlen2 hcols).use ?_
        have h4 : (decD l (encEn e).1).2 = 3 := by rw [hr2]; exact decD_two l r2
        simp [dA, h4]
        intro b18
        refine (num_ok gl hge 3 (by decide)).use ?_
        simp
        refine (lists_ok gl e.lines e.lines none none (by have := hf.efit.n; omega) (fun l hl => by have := hf.el l hl; omega)).use ?_
        simp
        refine (sure_ok gl m hm).use ?_
        simp
      · have hnil := encEn_bad e hG
        simp [hG, hnil]
        refine (sure_ok gl m hm).use ?_
        simp
    · simp [hE]
      refine (entry_ok gl e (by have := hf.efit.n; omega) (fun l hl => by have := hf.el l hl; omega)).use ?_
      simp
      refine (encodeEntry_ok gl m hm e hf.efit).use ?_
      by_cases hG : (encEn e).2 = 0
      · have hlen2 := encEn_tot e hf.efit hf.lt hG
        obtain ⟨hdec2, ⟨r2, hr2⟩, _⟩ := decEn_back e hf.efit hG
        simp [hG]
        refine (decodeEntry_ok gl m hm (encEn e).1 none hlen2).use ?_
        rw [hdec2]
        simp [enA]
        intro b16
        try rw [hcat]
        refine (decodeDone_ok gl m hm l (encEn e).1 none hlen2 hcols).use ?_
        have h4 : (decD l (encEn e).1).2 = 3 := by rw [hr2]; exact decD_two l r2
        simp [dA, h4]
        intro b18
        refine (num_ok gl hge 3 (by decide)).use ?_
        simp
        refine (lists_ok gl e.lines e.lines none none (by have := hf.efit.n; omega) (fun l hl => by have := hf.el l hl; omega)).use ?_
        simp
        refine (sure_ok gl m hm).use ?_
        simp
      · have hnil := encEn_bad e hG
        simp [hG, hnil]
        refine (sure_ok gl m hm).use ?_
        simp
  · simp [hnew]
    refine (sure_ok gl m hm).use ?_
    simp
end Go.Proofs.YtjhnabdcmfjeoaaGreatDoor.Ab
