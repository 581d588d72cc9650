/- The law StoreBack of package barbicanlaw26 returns true for every input that its card lets in, and each argument reads behind the call as it read before. The card's conditions: what the arguments hold together is of bulk at most 1048576; errors.errorType starts as the program's text lays it. -/
import Derived.Test.YtjhnabdcmfjeoaaGreatDoorYN
import Derived.Test.YtjhnabdcmfjeoaaGreatDoorCards
import Derived.Test.YtjhnabdcmfjeoaaGreatDoorTie
import Derived.WalkKit
import Derived.ProofKit
import Derived.OpenShut
import Derived.Deep.DeepHandedRow
import Derived.LaidHandle
set_option linter.unusedVariables false
set_option linter.unusedSimpArgs false
namespace Go.Proofs.YtjhnabdcmfjeoaaGreatDoor.Ab
open Go Go.ChangeShapes Go.WideShapes Go.ChangeAt Go.RowKit

theorem own0 : ownKnob Tryz.prog.godebug = none := by kernel_rfl
theorem etName : Tryz.prog.globalNamed "errors.errorType" = some 0 := by kernel_rfl
theorem rtName : (Tryz.prog.cutTypes.find? (·.1 == "internal/reflectlite.rtype")).map (·.2) = some 158 := by kernel_rfl
theorem typesSize : Tryz.prog.types.size = 227 := by kernel_rfl
theorem oneRow : ((List.range 227).filter fun t => Tryz.prog.rowNamed t [101, 114, 114, 111, 114]) = [32] := by kernel_rfl

/-- What the row's list gives: the variable's one cell. -/
theorem handle_of_laid {W : World} (h : laidMetH Tryz.prog [("errors.errorType", Rows.laid_errors_errorType)] W) : W.cell? ⟨0, 0, none⟩ = some (.iface 158 (.agg #[.pointer (some ⟨2, 32, none⟩)])) := by
  have h' : laidMet Tryz.prog [] W ∧ handlesMet Tryz.prog [("errors.errorType", Rows.laid_errors_errorType)] W := h
  obtain ⟨name, u, ty, e1, e2, e3, e4, e5⟩ := h'.2 _ (List.mem_singleton.2 rfl)
  have en : name = [101, 114, 114, 111, 114] := (Option.some.inj e1).symm
  subst en
  obtain rfl := Option.some.inj (rtName.symm.trans e2)
  have hm : ty ∈ (List.range 227).filter fun t => Tryz.prog.rowNamed t [101, 114, 114, 111, 114] := List.mem_filter.2 ⟨List.mem_range.2 (by rw [← typesSize]; exact e3), e4⟩
  rw [oneRow] at hm
  obtain rfl := List.mem_singleton.1 hm
  have hh : typeHandle Tryz.prog 32 = .pointer (some ⟨2, 32, none⟩) := by kernel_rfl
  rw [hh] at e5
  simpa using World.var?_cell etName e5 0

noncomputable def laidWorld (os : Os) : World :=
  let w0 := World.holding Tryz.prog os ⟨#[], #[], []⟩
  { w0 with heap := w0.heap.modify 0 fun
      | .cells _ t frozen => .cells #[.iface 158 (.agg #[.pointer (some ⟨2, 32, none⟩)])] t frozen
      | o => o }
theorem laid_met (os : Os) (args : Array Value) : laidMetH Tryz.prog [("errors.errorType", Rows.laid_errors_errorType)] ((laidWorld os).forCall (fun _ _ => 0) ⟨#[], args, []⟩).memory :=
  laidMetH_of_parts (laidMet_nil _ _) (by kernel_rfl)

/-- What is known of the package-level variables at the call. -/
def gl0 (m : Int) : Nat → AV
  | 0 => .rp [.s (.iface 158 (.agg #[.pointer (some ⟨2, 32, none⟩)]))]
  | 1 => .rp [.s (.int .i64 m)]
  | _ => .any
theorem repG0 {W : World} {m : Int} (h0 : W.cell? ⟨0, 0, none⟩ = some (.iface 158 (.agg #[.pointer (some ⟨2, 32, none⟩)]))) (h1 : W.cell? ⟨1, 0, none⟩ = some (.int .i64 m)) : RepG (im0 W) (gl0 m) := by
  intro g
  match g with
  | 0 => exact .rp _ 0 0 (fun _ => .iface 158 (.agg #[.pointer (some ⟨2, 32, none⟩)])) (fun i c hi => by
      match i with
      | 0 => exact im0_cell h0 rfl
      | i + 1 => simp at hi) (fun i c hi => by
      match i with
      | 0 => simp at hi; subst hi; exact .s _
      | i + 1 => simp at hi)
  | 1 => exact .rp _ 1 0 (fun _ => .int .i64 m) (fun i c hi => by
      match i with
      | 0 => exact im0_cell h1 rfl
      | i + 1 => simp at hi) (fun i c hi => by
      match i with
      | 0 => simp at hi; subst hi; exact .s _
      | i + 1 => simp at hi)
  | g + 2 => exact .any _

theorem kids : Kids Tryz.prog (· < Tryz.prog.types.size) := kids_rows (by kernel_rfl) (by kernel_rfl)
theorem full : ∀ t e, t < Tryz.prog.types.size → Tryz.prog.underlying t = some (.slice e) → 0 < Tryz.prog.cellsOf e := slices_full_of Tryz.prog (by kernel_rfl)

theorem trodAll_carry0 {H : Type} {enc : TypeId × Value → H} {P : Program} {W W' : World} {sp : Nat → Bool} : ∀ {ts : List TypeId} {vs : List Value} {ds : List (DataW H)} {p : List MemPlace}, DataW.TrodAll enc P W 0 sp true ts vs ds p → (∀ q ∈ p, W.sameAt W' q) → DataW.TrodAll enc P W' 0 sp true ts vs ds p
  | [], [], [], _, h, _ => h
  | _ :: _, _ :: _, _ :: _, _, ⟨p, q, ⟨n, h1⟩, h2, e⟩, hs => ⟨p, q, ⟨n, DataW.trod_carry n _ _ _ h1 fun x hx => hs x (by rw [e]; exact List.mem_append_left _ hx)⟩, trodAll_carry0 h2 fun x hx => hs x (by rw [e]; exact List.mem_append_right _ hx), e⟩

/-- What is left as it was reads as it read. -/
theorem trod_again {H : Type} {enc : TypeId × Value → H} {W W' : World} {ts : List TypeId} {vs : List Value} {ds : List (DataW H)} {p : List MemPlace} (hts : ∀ t ∈ ts, t < Tryz.prog.types.size)
    (h : DataW.TrodAll enc Tryz.prog W 0 (fun _ => true) true ts vs ds p) (hlt : ∀ q ∈ p, q.block < W.heap.size) (hh : ∀ b, b < W.heap.size → W'.heap[b]? = W.heap[b]?) :
    DataW.TrodAll enc Tryz.prog W' 0 (fun b => decide (b < W.heap.size)) true ts vs ds p := by
  have h1 := DataW.TrodAll.respare (spare' := fun b => decide (b < W.heap.size)) kids full hts h (fun q hq => by simpa using hlt q hq)
  exact trodAll_carry0 h1 fun q hq => by
    have := hh _ (hlt q hq)
    cases q with
    | cell b o => simp only [World.sameAt, World.cell?]; simp only [MemPlace.block] at this; rw [this]
    | map b => exact this

theorem rep_agg {im : Im} {cs : List AV} {v : Value} (h : RepL im cs v.cells.toList) (hl : cs.length ≠ 1) : Rep im (.agg cs) v := by
  cases v with
  | agg vs => exact .agg cs vs (by have := h.1; simp [Value.cells] at this; omega) fun i c u h1 h2 => h.2 i c u h1 (by simpa [Value.cells] using h2)
  | _ => exact absurd (by have := h.1; simpa [Value.cells] using this) hl
theorem rep_one {im : Im} {c : AV} {v : Value} (h : RepL im [c] v.cells.toList) (hv : ∀ u ∈ v.cells.toList, u.oneCell' = true) (hna : ∀ vs, v ≠ .agg vs) : Rep im c v := by
  cases v with
  | agg vs => exact absurd rfl (hna vs)
  | _ => exact h.2 0 c _ rfl (by simp [Value.cells])

/-- What the call leaves as it was. -/
theorem kept_of_ok {W W' : World} {im im' : Im} {H' : AHeap} {may : MemPlace → Prop} (h : Ok (here im W []) im' W' H') : W.keptBut W' may := by
  refine ⟨h.os, h.output, fun i hi => ?_⟩
  have := (h.frame i hi (by simp [here, keys])).1
  change W'.heap[i]? = W.heap[i]? at this
  rw [this]
  cases hw : W.heap[i]? with
  | none => rfl
  | some o =>
    cases o with
    | cells c t fr => exact ⟨rfl, rfl, rfl, fun _ _ => rfl⟩
    | map es clock => exact .inr ⟨rfl, rfl⟩
    | _ => rfl

theorem Rep.consL {im : Im} {a : AV} {v : Value} {ls : List AV} {vs : List Value} (h : Rep im a v) (k : RepL im ls vs) : RepL im (a :: ls) (v :: vs) := RepL.cons h k

theorem bulk_of {H : Type} {ds : List (DataW H)} (h : Rows.uptoSmall H ds = true) : Rows.uptoBulkAll ds ≤ 1048576 := of_decide_eq_true h

set_option maxRecDepth 100000
/-- What the contract gives at a row's world. -/
theorem back_contract {H : Type} {enc : TypeId × Value → H} (W : World) (base : Nat) (args : Array Value) (ds gs : List (DataW H)) (before : List MemPlace)
    (hval : ∀ (j : Nat) t v, Tryz.f4.params[j]? = some t → args[j]? = some v → Value.okWide Tryz.prog W .any base t v)
    (hW : DataW.Whole enc Tryz.prog Tryz.f4.params.toList Rows.storeBackSpec.vars false W args.toList ds gs before) (hk : Rows.uptoSmall H (ds ++ gs) = true)
    (hL : laidMetH Tryz.prog Rows.storeBackUptoRow.laid W) (hsh : W.ShapedOpen Tryz.prog) :
    Calls Tryz.prog 4 args W fun e W' => ∃ v, e = .returned v ∧ Rows.storeBackSpec.post enc Tryz.prog Tryz.f4 false true false false W args v W' := by
  have hW' := hW
  obtain ⟨p, q, hA0, hV0, rfl, hfz, hnd⟩ := hW
  have hA : DataW.TrodAll enc Tryz.prog W 0 (fun _ => true) true Tryz.f4.params.toList args.toList ds p := hA0
  rw [Tryz.params4] at hA hval
  obtain ⟨v0, v1, v2, d0, d1, d2, p0, p1, p2, rfl, rfl, rfl, ⟨n0, h0⟩, ⟨n1, h1⟩, ⟨n2, h2⟩⟩ := trodAll_three hA
  obtain ⟨rfl, rfl⟩ := trodVars_none hV0
  obtain ⟨l, r0, c0, w0, _⟩ := mod_tbs (enc := enc) (w := W) n0 _ _ h0
  obtain ⟨d, r1, c1, w1, k1⟩ := mod_dn (enc := enc) (w := W) n1 _ _ h1
  obtain ⟨e, r2, c2, w2, k2⟩ := mod_en (enc := enc) (w := W) n2 _ _ h2
  have hbulk := bulk_of hk
  simp only [List.append_nil, Rows.uptoBulkAll] at hbulk
  simp only at w0 w1 w2
  have hf := back_fits l d e (by omega) k1 k2
  obtain ⟨m, hm⟩ : ∃ m, W.cell? ⟨1, 0, none⟩ = some (.int .i64 m) := Tryz.laysM144.s1_3 W hsh
  have hg := repG0 (handle_of_laid hL) hm
  have hna : ∀ vs, v0 ≠ .agg vs := by
    intro vs e
    have := hval 0 22 v0 rfl rfl
    subst e
    simp [Value.okWide, Tryz.underlying22, Cell.okWide, Cell.ok] at this
  have hargs : RepL (im0 W) [.lst 2 (tsA l) none, dA d, enA e] [v0, v1, v2] :=
    (rep_one r0 c0 hna).consL ((rep_agg r1 (by simp [dA, AV.cells])).consL (repL_one (rep_agg r2 (by simp [enA, AV.cells]))))
  refine (storeBack_ok (gl0 m) m rfl rfl l d e hf (im0 W) W [v0, v1, v2] hargs (ok0 W) hg).mono ?_
  rintro ev W1 ⟨v, im', av, H', rfl, hok, hrep, rfl, rfl⟩
  have hv := sInv hrep
  subst hv
  have hlt : ∀ x ∈ p0 ++ p1 ++ p2, x.block < W.heap.size := fun x hx => DataW.TrodAll.lt hA x hx
  have e1 : Rows.storeBackSpec.fn H ([d0, d1, d2] ++ []) = { results := [.lit (.bool true)], args := [d0, d1, d2] } := rfl
  refine ⟨_, rfl, _, _, _, [], p0 ++ p1 ++ p2, [], hW', ?_, ?_, ?_, kept_of_ok hok, fun h => by cases h⟩
  · rw [e1]; exact trodAll_mk1 (shut_bool Tryz.underlying4 true)
  · rw [e1, Tryz.params4]
    exact trod_again (by rw [typesSize]; decide) hA hlt fun b hb => (hok.frame b hb (by simp [here, keys])).1
  · rw [e1]; rfl

theorem reads0 (os : Os) {H : Type} (enc : TypeId × Value → H) : ∃ places, DataW.whole enc Tryz.prog ((laidWorld os).forCall (fun _ _ => 0) ⟨#[], #[.slice none 0 0, .agg #[.int .i64 0, .int .i64 0, .slice none 0 0, .slice none 0 0], .agg #[.string ⟨#[]⟩, .slice none 0 0]], []⟩).memory
    Tryz.f4.params.toList Rows.storeBackSpec.vars false [.slice none 0 0, .agg #[.int .i64 0, .int .i64 0, .slice none 0 0, .slice none 0 0], .agg #[.string ⟨#[]⟩, .slice none 0 0]] 8 =
      some ([.nil, .agg [.lit (.int .i64 0), .lit (.int .i64 0), .nil, .nil], .agg [.lit (.string []), .nil]], [], places) :=
  ⟨[], by kernel_rfl⟩

theorem back_lifted (os : Os) (started : os.Started) (H : Type) (enc : TypeId × Value → H) (F : Stop.Interp) :
    ReturnsInHanded {} Tryz.checked os 4 .any ((Rows.OpenSpec.upto Rows.storeBackSpec).preRow enc Tryz.prog Tryz.f4 Rows.storeBackUptoRow.domain false Rows.storeBackUptoRow.laid) (((Rows.OpenSpec.upto Rows.storeBackSpec).at F).post enc Tryz.prog Tryz.f4 false true false false) := by
  obtain ⟨places, hx⟩ := reads0 os enc
  refine returnsInHanded_of_row (C := Tryz.checked) (s := Rows.OpenSpec.upto Rows.storeBackSpec) own0 started (by kernel_rfl) Tryz.func4
    (witness_row_at (enc := enc) (C := Tryz.checked) false (laidWorld os) #[.slice none 0 0, .agg #[.int .i64 0, .int .i64 0, .slice none 0 0, .slice none 0 0], .agg #[.string ⟨#[]⟩, .slice none 0 0]] rfl (by kernel_rfl) (by kernel_rfl) (by kernel_rfl)
      (OpenSpec.preRow_of_cond 8 hx (by kernel_rfl) (fun k hk => by cases hk; kernel_rfl) (by kernel_rfl) (laid_met os _))) ?_
  intro W base args ds gs before hval hW _ hcond _ hL hsh _
  exact back_contract W base args ds gs before hval hW (hcond _ rfl) hL hsh

theorem back_said : Rows.StoreBackUptoSaid :=
  OpenClaim.holds_of_cond 4 Tryz.f4 rfl rfl rfl rfl rfl rfl rfl ⟨rfl, rfl, rfl, rfl, rfl⟩ rfl rfl rfl rfl rfl (by kernel_rfl) Tryz.func4 (by kernel_rfl)
    (of_decide_eq_true (by kernel_rfl)) (by unfold Func.isWrapper; first | (rw [if_pos (by decide +kernel)]; kernel_rfl) | (rw [if_neg (by decide +kernel)]; exact ⟨rfl, rfl⟩))
    (fun os started H enc _ F => by rw [OpenClaim.pre_eq_preRow]; exact back_lifted os started H enc F)

theorem back_plain (f : FuncId) (fn : Func) (hf : Tryz.pinned.checked.prog.funcNamed "barbican/barbicanlaw26.StoreBack" = some f) (hfn : Tryz.pinned.checked.prog.funcs[f]? = some fn) :
    true = Tryz.pinned.checked.prog.looks [] ∧ ∀ (j : Nat) t, fn.params[j]? = some t → Tryz.pinned.checked.prog.wantsStandIn t = false := by
  obtain rfl : f = 4 := Option.some.inj ((show Tryz.prog.funcNamed "barbican/barbicanlaw26.StoreBack" = some 4 by kernel_rfl).symm.trans hf) |>.symm
  obtain rfl : fn = Tryz.f4 := (Option.some.inj (Tryz.func4.symm.trans hfn)).symm
  refine ⟨by kernel_rfl, fun j t ht => ?_⟩
  rw [Tryz.params4] at ht
  have hm := Array.mem_of_getElem? ht
  simp at hm
  rcases hm with rfl | rfl | rfl
  · exact (show Tryz.prog.wantsStandIn 22 = false by kernel_rfl)
  · exact (show Tryz.prog.wantsStandIn 26 = false by kernel_rfl)
  · exact (show Tryz.prog.wantsStandIn 49 = false by kernel_rfl)
end Go.Proofs.YtjhnabdcmfjeoaaGreatDoor.Ab
namespace Go.Proofs.YtjhnabdcmfjeoaaGreatDoor
open Go
theorem storeBack_holds : Rows.StoreBackUptoCardSaid :=
  Claim7.holds_tied_plain_at .later [] _ _ _ _ Ab.back_said (fun _ h => by cases h) (by kernel_rfl) (fun _ h => by cases h) storeBackUpto_row_tie rfl ⟨rfl, rfl⟩ (by kernel_rfl) rfl Ab.back_plain (by kernel_rfl)
#print axioms storeBack_holds
end Go.Proofs.YtjhnabdcmfjeoaaGreatDoor
