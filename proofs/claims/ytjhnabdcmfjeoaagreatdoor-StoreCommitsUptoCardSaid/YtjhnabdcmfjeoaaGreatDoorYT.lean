/- The law StoreCommits of package barbicanlaw26 returns true for every input that its card lets in, and each argument reads behind the call as it read before. The card's conditions: what the arguments hold together is of bulk at most 1048576; errors.errorType starts as the program's text lays it. -/
import Derived.Test.YtjhnabdcmfjeoaaGreatDoorYO
import Derived.Test.YtjhnabdcmfjeoaaGreatDoorYS
set_option linter.unusedVariables false
set_option linter.unusedSimpArgs false
namespace Go.Proofs.YtjhnabdcmfjeoaaGreatDoor.Ab
open Go Go.ChangeShapes Go.WideShapes Go.ChangeAt Go.RowKit

section
variable {H : Type} {enc : TypeId × Value → H} {w : World}
set_option maxRecDepth 20000
theorem mod_u8 {t : TypeId} (ht : (tyI Tryz.prog t).kind = .int .u8) : Mod enc Tryz.prog w t UInt8 (fun c => [.s (.int .u8 c.toNat)]) (fun _ => 1) (fun _ => True) := by
  intro fuel cs x h
  obtain ⟨n, h1, h2, h3, h4⟩ := mod_int (enc := enc) (w := w) ht fuel cs x h
  have hw : 0 ≤ n ∧ n ≤ 255 := by simpa [Lit.wf, IntKind.min, IntKind.max, IntKind.signed, IntKind.bits] using h4
  have e : ((UInt8.ofNat n.toNat).toNat : Int) = n := by simp; omega
  exact ⟨UInt8.ofNat n.toNat, by simp only [e]; exact h1, h2, h3, trivial⟩
theorem mod_bytes : Mod enc Tryz.prog w 27 (List UInt8) (fun l => [.lst 1 (bytesA l) none]) (fun l => (l.map fun _ => 1).sum + 1) (fun l => ∀ v ∈ l, True) :=
  mod_slice (by simp) (by simp) (by decide) (mod_u8 (t := 5) (by simp)) byteA (fun a => rfl) (fun a => rfl)
def okCol (c : Col) : Prop := -9223372036854775808 ≤ c.kind ∧ c.kind ≤ 9223372036854775807
theorem mod_colK : Mod enc Tryz.prog w 118 Col (fun c => (cA c).cells) wCol okCol :=
  (mod_struct4 (n1 := 1) (n2 := 1) (n3 := 1) (n4 := 1) (by simp) (by simp) rfl rfl (by simp) (by simp) (by simp) (by simp) (by simp) (by simp)
    (mod_str (t := 9) (by simp)) (mod_int (t := 3) (k := .i64) (by simp)) (mod_bool (t := 4) (by simp)) (mod_bool (t := 4) (by simp))).map
    (fun x => ⟨x.1, x.2.1, x.2.2.1, x.2.2.2⟩) (fun a => rfl) (fun a => by simp [wCol]) (fun a h => wf_i64 h.2.1)
theorem mod_colsK : Mod enc Tryz.prog w 57 (List Col) (fun l => [.lst 4 (csA l) none]) (fun l => (l.map wCol).sum + 1) (fun l => ∀ v ∈ l, okCol v) :=
  mod_slice (by simp) (by simp) (by decide) mod_colK cA (fun a => rfl) (fun a => rfl)
theorem mod_tbK : Mod enc Tryz.prog w 59 Tb (fun c => (tA c).cells) wTb (fun t => ∀ c ∈ t.cols, okCol c) :=
  (mod_struct2 (n1 := 1) (n2 := 1) (by simp) (by simp) (by simp) (by simp) (by simp) (by simp) (mod_str (t := 9) (by simp)) mod_colsK).map
    (fun x => ⟨x.1, x.2⟩) (fun a => rfl) (fun a => Nat.le_refl _) (fun a h => h.2)
theorem mod_tbsK : Mod enc Tryz.prog w 22 (List Tb) (fun l => [.lst 2 (tsA l) none]) (fun l => (l.map wTb).sum + 1) (fun l => ∀ t ∈ l, ∀ c ∈ t.cols, okCol c) :=
  mod_slice (by simp) (by simp) (by decide) mod_tbK tA (fun a => rfl) (fun a => rfl)
end

theorem comm_fits (l : List Tb) (d : Dn) (b : List UInt8) (hw : (l.map wTb).sum + 1 + wDn d + ((b.map fun _ => 1).sum + 1) ≤ 2 ^ 20) (hl : ∀ t ∈ l, ∀ c ∈ t.cols, okCol c) (hd : okDn d) : CommFits l d b := by
  have hb := sum_len (f := fun _ : UInt8 => 1) (fun x => Nat.le_refl _) b
  have hll := sum_len (f := wTb) (fun x => by unfold wTb; omega) l
  unfold wDn at hw
  have hdl := sum_len (f := fun _ : Int => 1) (fun x => Nat.le_refl _) d.deps
  have hwl := sum_len (f := wWr) (fun x => by unfold wWr; omega) d.writes
  have h3 := rsum_le d.writes
  have hrow : ∀ w ∈ d.writes, (w.row.map wV).sum ≤ 2 ^ 20 := fun w hw' => by
    have := sum_mem (f := wWr) hw'
    have e : wWr w = w.table.length + 1 + 1 + ((w.row.map wV).sum + 1) := rfl
    omega
  have hlen : ∀ x : List V, x.length ≤ (x.map wV).sum := sum_len (f := wV) (fun x => by unfold wV; omega)
  refine ⟨by omega, fun t ht => ?_, hl, ⟨hd.1.2.2, fun n hn => (wf_i64 (hd.2.1 n hn)).2, by omega, fun w hw' => ⟨Nat.le_trans (hlen _) (hrow w hw'), fits_of (hrow w hw') (Nat.le_refl _) (hd.2.2 w hw')⟩, by omega⟩, by omega, by omega⟩
  have a1 := sum_mem (f := wTb) ht
  have a2 := sum_len (f := wCol) (fun x => by unfold wCol; omega) t.cols
  have e1 : wTb t = t.name.length + 1 + ((t.cols.map wCol).sum + 1) := rfl
  omega

set_option maxRecDepth 100000
/-- What the contract gives at a row's world. -/
theorem comm_contract {H : Type} {enc : TypeId × Value → H} (W : World) (base : Nat) (args : Array Value) (ds gs : List (DataW H)) (before : List MemPlace)
    (hval : ∀ (j : Nat) t v, Tryz.f3.params[j]? = some t → args[j]? = some v → Value.okWide Tryz.prog W .any base t v)
    (hW : DataW.Whole enc Tryz.prog Tryz.f3.params.toList Rows.storeCommitsSpec.vars false W args.toList ds gs before) (hk : Rows.uptoSmall H (ds ++ gs) = true)
    (hL : laidMetH Tryz.prog Rows.storeCommitsUptoRow.laid W) (hsh : W.ShapedOpen Tryz.prog) :
    Calls Tryz.prog 3 args W fun e W' => ∃ v, e = .returned v ∧ Rows.storeCommitsSpec.post enc Tryz.prog Tryz.f3 false true false false W args v W' := by
  have hW' := hW
  obtain ⟨p, q, hA0, hV0, rfl, hfz, hnd⟩ := hW
  have hA : DataW.TrodAll enc Tryz.prog W 0 (fun _ => true) true Tryz.f3.params.toList args.toList ds p := hA0
  rw [Tryz.params3] at hA hval
  obtain ⟨v0, v1, v2, d0, d1, d2, p0, p1, p2, rfl, rfl, rfl, ⟨n0, h0⟩, ⟨n1, h1⟩, ⟨n2, h2⟩⟩ := trodAll_three hA
  obtain ⟨rfl, rfl⟩ := trodVars_none hV0
  obtain ⟨l, r0, c0, w0, k0⟩ := mod_tbsK (enc := enc) (w := W) n0 _ _ h0
  obtain ⟨d, r1, c1, w1, k1⟩ := mod_dn (enc := enc) (w := W) n1 _ _ h1
  obtain ⟨b, r2, c2, w2, k2⟩ := mod_bytes (enc := enc) (w := W) n2 _ _ h2
  have hbulk := bulk_of hk
  simp only [List.append_nil, Rows.uptoBulkAll] at hbulk
  simp only at w0 w1 w2
  have hf := comm_fits l d b (by omega) k0 k1
  obtain ⟨m, hm⟩ : ∃ m, W.cell? ⟨1, 0, none⟩ = some (.int .i64 m) := Tryz.laysM144.s1_3 W hsh
  have hg := repG0 (handle_of_laid hL) hm
  have hna : ∀ vs, v0 ≠ .agg vs := by
    intro vs e
    have := hval 0 22 v0 rfl rfl
    subst e
    simp [Value.okWide, Tryz.underlying22, Cell.okWide, Cell.ok] at this
  have hnb : ∀ vs, v2 ≠ .agg vs := by
    intro vs e
    have := hval 2 27 v2 rfl rfl
    subst e
    simp [Value.okWide, Tryz.underlying27, Cell.okWide, Cell.ok] at this
  have hargs : RepL (im0 W) [.lst 2 (tsA l) none, dA d, .lst 1 (bytesA b) none] [v0, v1, v2] :=
    (rep_one r0 c0 hna).consL ((rep_agg r1 (by simp [dA, AV.cells])).consL (repL_one (rep_one r2 c2 hnb)))
  refine (storeCommits_ok (gl0 m) m rfl rfl l d b hf (im0 W) W [v0, v1, v2] hargs (ok0 W) hg).mono ?_
  rintro ev W1 ⟨v, im', av, H', rfl, hok, hrep, rfl, rfl⟩
  have hv := sInv hrep
  subst hv
  have hlt : ∀ x ∈ p0 ++ p1 ++ p2, x.block < W.heap.size := fun x hx => DataW.TrodAll.lt hA x hx
  have e1 : Rows.storeCommitsSpec.fn H ([d0, d1, d2] ++ []) = { results := [.lit (.bool true)], args := [d0, d1, d2] } := rfl
  refine ⟨_, rfl, _, _, _, [], p0 ++ p1 ++ p2, [], hW', ?_, ?_, ?_, kept_of_ok hok, fun h => by cases h⟩
  · rw [e1]; exact trodAll_mk1 (shut_bool Tryz.underlying4 true)
  · rw [e1, Tryz.params3]
    exact trod_again (by rw [typesSize]; decide) hA hlt fun b hb => (hok.frame b hb (by simp [here, keys])).1
  · rw [e1]; rfl

theorem comm_reads0 (os : Os) {H : Type} (enc : TypeId × Value → H) : ∃ places, DataW.whole enc Tryz.prog ((laidWorld os).forCall (fun _ _ => 0) ⟨#[], #[.slice none 0 0, .agg #[.int .i64 0, .int .i64 0, .slice none 0 0, .slice none 0 0], .slice none 0 0], []⟩).memory
    Tryz.f3.params.toList Rows.storeCommitsSpec.vars false [.slice none 0 0, .agg #[.int .i64 0, .int .i64 0, .slice none 0 0, .slice none 0 0], .slice none 0 0] 8 =
      some ([.nil, .agg [.lit (.int .i64 0), .lit (.int .i64 0), .nil, .nil], .nil], [], places) :=
  ⟨[], by kernel_rfl⟩

theorem comm_lifted (os : Os) (started : os.Started) (H : Type) (enc : TypeId × Value → H) (F : Stop.Interp) :
    ReturnsInHanded {} Tryz.checked os 3 .any ((Rows.OpenSpec.upto Rows.storeCommitsSpec).preRow enc Tryz.prog Tryz.f3 Rows.storeCommitsUptoRow.domain false Rows.storeCommitsUptoRow.laid) (((Rows.OpenSpec.upto Rows.storeCommitsSpec).at F).post enc Tryz.prog Tryz.f3 false true false false) := by
  obtain ⟨places, hx⟩ := comm_reads0 os enc
  refine returnsInHanded_of_row (C := Tryz.checked) (s := Rows.OpenSpec.upto Rows.storeCommitsSpec) own0 started (by kernel_rfl) Tryz.func3
    (witness_row_at (enc := enc) (C := Tryz.checked) false (laidWorld os) #[.slice none 0 0, .agg #[.int .i64 0, .int .i64 0, .slice none 0 0, .slice none 0 0], .slice none 0 0] rfl (by kernel_rfl) (by kernel_rfl) (by kernel_rfl)
      (OpenSpec.preRow_of_cond 8 hx (by kernel_rfl) (fun k hk => by cases hk; kernel_rfl) (by kernel_rfl) (laid_met os _))) ?_
  intro W base args ds gs before hval hW _ hcond _ hL hsh _
  exact comm_contract W base args ds gs before hval hW (hcond _ rfl) hL hsh

theorem comm_said : Rows.StoreCommitsUptoSaid :=
  OpenClaim.holds_of_cond 3 Tryz.f3 rfl rfl rfl rfl rfl rfl rfl ⟨rfl, rfl, rfl, rfl, rfl⟩ rfl rfl rfl rfl rfl (by kernel_rfl) Tryz.func3 (by kernel_rfl)
    (of_decide_eq_true (by kernel_rfl)) (by unfold Func.isWrapper; first | (rw [if_pos (by decide +kernel)]; kernel_rfl) | (rw [if_neg (by decide +kernel)]; exact ⟨rfl, rfl⟩))
    (fun os started H enc _ F => by rw [OpenClaim.pre_eq_preRow]; exact comm_lifted os started H enc F)

theorem comm_plain (f : FuncId) (fn : Func) (hf : Tryz.pinned.checked.prog.funcNamed "barbican/barbicanlaw26.StoreCommits" = some f) (hfn : Tryz.pinned.checked.prog.funcs[f]? = some fn) :
    true = Tryz.pinned.checked.prog.looks [] ∧ ∀ (j : Nat) t, fn.params[j]? = some t → Tryz.pinned.checked.prog.wantsStandIn t = false := by
  obtain rfl : f = 3 := Option.some.inj ((show Tryz.prog.funcNamed "barbican/barbicanlaw26.StoreCommits" = some 3 by kernel_rfl).symm.trans hf) |>.symm
  obtain rfl : fn = Tryz.f3 := (Option.some.inj (Tryz.func3.symm.trans hfn)).symm
  refine ⟨by kernel_rfl, fun j t ht => ?_⟩
  rw [Tryz.params3] at ht
  have hm := Array.mem_of_getElem? ht
  simp at hm
  rcases hm with rfl | rfl | rfl
  · exact (show Tryz.prog.wantsStandIn 22 = false by kernel_rfl)
  · exact (show Tryz.prog.wantsStandIn 26 = false by kernel_rfl)
  · exact (show Tryz.prog.wantsStandIn 27 = false by kernel_rfl)
end Go.Proofs.YtjhnabdcmfjeoaaGreatDoor.Ab
namespace Go.Proofs.YtjhnabdcmfjeoaaGreatDoor
open Go
theorem storeCommits_holds : Rows.StoreCommitsUptoCardSaid :=
  Claim7.holds_tied_plain_at .later [] _ _ _ _ Ab.comm_said (fun _ h => by cases h) (by kernel_rfl) (fun _ h => by cases h) storeCommitsUpto_row_tie rfl ⟨rfl, rfl⟩ (by kernel_rfl) rfl Ab.comm_plain (by kernel_rfl)
#print axioms storeCommits_holds
end Go.Proofs.YtjhnabdcmfjeoaaGreatDoor
