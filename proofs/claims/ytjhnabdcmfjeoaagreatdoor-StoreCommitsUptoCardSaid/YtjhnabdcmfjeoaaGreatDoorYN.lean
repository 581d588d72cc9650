/- From what the law's arguments read as to tables, commits, entries. Own work. -/
import Derived.Test.YtjhnabdcmfjeoaaGreatDoorYM
import Derived.Test.YtjhnabdcmfjeoaaGreatDoorYE
set_option linter.unusedVariables false
set_option linter.unusedSimpArgs false
namespace Go.Proofs.YtjhnabdcmfjeoaaGreatDoor.Ab
open Go

theorem wf_i64 {n : Int} (h : (Lit.int .i64 n).wf = true) : -9223372036854775808 ≤ n ∧ n ≤ 9223372036854775807 := by
  simpa [Lit.wf, IntKind.min, IntKind.max, IntKind.signed, IntKind.bits] using h

def wV (v : V) : Nat := v.t.length + 4
def wCol (c : Col) : Nat := c.name.length + 4
def wTb (t : Tb) : Nat := t.name.length + 1 + ((t.cols.map wCol).sum + 1)
def wWr (w : Wr) : Nat := w.table.length + 1 + 1 + ((w.row.map wV).sum + 1)
def wDn (d : Dn) : Nat := 1 + 1 + ((d.deps.map fun _ => 1).sum + 1) + ((d.writes.map wWr).sum + 1)
def wEn (e : En) : Nat := e.view.length + 1 + ((e.lines.map fun l => (l.map wV).sum + 1).sum + 1)
def okV (v : V) : Prop := (-9223372036854775808 ≤ v.k ∧ v.k ≤ 9223372036854775807) ∧ (-9223372036854775808 ≤ v.n ∧ v.n ≤ 9223372036854775807)

section
variable {H : Type} {enc : TypeId × Value → H} {w : World}
set_option maxRecDepth 20000
theorem mod_col : Mod enc Tryz.prog w 118 Col (fun c => (cA c).cells) wCol (fun _ => True) :=
  (mod_struct4 (n1 := 1) (n2 := 1) (n3 := 1) (n4 := 1) (by simp) (by simp) rfl rfl (by simp) (by simp) (by simp) (by simp) (by simp) (by simp)
    (mod_str (t := 9) (by simp)) (mod_int (t := 3) (k := .i64) (by simp)) (mod_bool (t := 4) (by simp)) (mod_bool (t := 4) (by simp))).map
    (fun x => ⟨x.1, x.2.1, x.2.2.1, x.2.2.2⟩) (fun a => rfl) (fun a => by simp [wCol]) (fun a h => trivial)
theorem mod_val : Mod enc Tryz.prog w 63 V (fun c => (vA c).cells) wV okV :=
  (mod_struct4 (n1 := 1) (n2 := 1) (n3 := 1) (n4 := 1) (by simp) (by simp) rfl rfl (by simp) (by simp) (by simp) (by simp) (by simp) (by simp)
    (mod_int (t := 3) (k := .i64) (by simp)) (mod_int (t := 3) (k := .i64) (by simp)) (mod_str (t := 9) (by simp)) (mod_bool (t := 4) (by simp))).map
    (fun x => ⟨x.1, x.2.1, x.2.2.1, x.2.2.2⟩) (fun a => rfl) (fun a => by simp [wV]; omega) (fun a h => ⟨wf_i64 h.1, wf_i64 h.2.1⟩)

theorem mod_vals : Mod enc Tryz.prog w 64 (List V) (fun l => [.lst 4 (vsA l) none]) (fun l => (l.map wV).sum + 1) (fun l => ∀ v ∈ l, okV v) :=
  mod_slice (by simp) (by simp) (by decide) mod_val vA (fun a => rfl) (fun a => rfl)
theorem mod_ints : Mod enc Tryz.prog w 23 (List Int) (fun l => [.lst 1 (intsA l) none]) (fun l => (l.map fun _ => 1).sum + 1) (fun l => ∀ n ∈ l, (Lit.int .i64 n).wf = true) :=
  mod_slice (by simp) (by simp) (by decide) (mod_int (t := 3) (k := .i64) (by simp)) (fun n => .s (.int .i64 n)) (fun a => rfl) (fun a => rfl)
theorem mod_cols : Mod enc Tryz.prog w 57 (List Col) (fun l => [.lst 4 (csA l) none]) (fun l => (l.map wCol).sum + 1) (fun l => ∀ v ∈ l, True) :=
  mod_slice (by simp) (by simp) (by decide) mod_col cA (fun a => rfl) (fun a => rfl)
theorem mod_tb : Mod enc Tryz.prog w 59 Tb (fun c => (tA c).cells) wTb (fun _ => True) :=
  (mod_struct2 (n1 := 1) (n2 := 1) (by simp) (by simp) (by simp) (by simp) (by simp) (by simp) (mod_str (t := 9) (by simp)) mod_cols).map
    (fun x => ⟨x.1, x.2⟩) (fun a => rfl) (fun a => Nat.le_refl _) (fun a h => trivial)
theorem mod_tbs : Mod enc Tryz.prog w 22 (List Tb) (fun l => [.lst 2 (tsA l) none]) (fun l => (l.map wTb).sum + 1) (fun l => ∀ v ∈ l, True) :=
  mod_slice (by simp) (by simp) (by decide) mod_tb tA (fun a => rfl) (fun a => rfl)
theorem mod_wr : Mod enc Tryz.prog w 68 Wr (fun c => (wA c).cells) wWr (fun x => ∀ v ∈ x.row, okV v) :=
  (mod_struct3 (n1 := 1) (n2 := 1) (n3 := 1) (by simp) (by simp) rfl (by simp) (by simp) (by simp) (by simp) (by simp) (mod_str (t := 9) (by simp)) (mod_bool (t := 4) (by simp)) mod_vals).map
    (fun x => ⟨x.1, x.2.1, x.2.2⟩) (fun a => rfl) (fun a => Nat.le_refl _) (fun a h => h.2.2)
theorem mod_wrs : Mod enc Tryz.prog w 24 (List Wr) (fun l => [.lst 3 (wsA l) none]) (fun l => (l.map wWr).sum + 1) (fun l => ∀ x ∈ l, ∀ v ∈ x.row, okV v) :=
  mod_slice (by simp) (by simp) (by decide) mod_wr wA (fun a => rfl) (fun a => rfl)
def okDn (d : Dn) : Prop := ((-9223372036854775808 ≤ d.label ∧ d.label ≤ 9223372036854775807) ∧ (-9223372036854775808 ≤ d.number ∧ d.number ≤ 9223372036854775807)) ∧ (∀ n ∈ d.deps, (Lit.int .i64 n).wf = true) ∧ (∀ x ∈ d.writes, ∀ v ∈ x.row, okV v)
theorem mod_dn : Mod enc Tryz.prog w 26 Dn (fun c => (dA c).cells) wDn okDn :=
  (mod_struct4 (n1 := 1) (n2 := 1) (n3 := 1) (n4 := 1) (by simp) (by simp) rfl rfl (by simp) (by simp) (by simp) (by simp) (by simp) (by simp)
    (mod_int (t := 3) (k := .i64) (by simp)) (mod_int (t := 3) (k := .i64) (by simp)) mod_ints mod_wrs).map
    (fun x => ⟨x.1, x.2.1, x.2.2.1, x.2.2.2⟩) (fun a => rfl) (fun a => Nat.le_refl _) (fun a h => ⟨⟨wf_i64 h.1, wf_i64 h.2.1⟩, h.2.2.1, h.2.2.2⟩)
theorem mod_lines : Mod enc Tryz.prog w 47 (List (List V)) (fun l => [.lst 1 (linesA l) none]) (fun l => (l.map fun l => (l.map wV).sum + 1).sum + 1) (fun l => ∀ x ∈ l, ∀ v ∈ x, okV v) :=
  mod_slice (by simp) (by simp) (by decide) mod_vals lineA (fun a => rfl) (fun a => rfl)
theorem mod_en : Mod enc Tryz.prog w 49 En (fun c => (enA c).cells) wEn (fun e => ∀ x ∈ e.lines, ∀ v ∈ x, okV v) :=
  (mod_struct2 (n1 := 1) (n2 := 1) (by simp) (by simp) (by simp) (by simp) (by simp) (by simp) (mod_str (t := 9) (by simp)) mod_lines).map
    (fun x => ⟨x.1, x.2⟩) (fun a => rfl) (fun a => Nat.le_refl _) (fun a h => h.2)
end

/-! what the weights give -/
theorem sum_mem {α : Type} {f : α → Nat} : ∀ {l : List α} {x : α}, x ∈ l → f x ≤ (l.map f).sum
  | y :: l, x, h => by
    simp only [List.map_cons, List.sum_cons]
    rcases List.mem_cons.1 h with rfl | h
    · omega
    · have := sum_mem (f := f) h; omega
theorem sum_len {α : Type} {f : α → Nat} (hf : ∀ x, 1 ≤ f x) : ∀ l : List α, l.length ≤ (l.map f).sum
  | [] => by simp
  | y :: l => by
    have h1 := hf y
    have h2 := sum_len hf l
    simp only [List.map_cons, List.sum_cons, List.length_cons]; omega
theorem tot_le : ∀ l : List V, tot l ≤ (l.map wV).sum
  | [] => by simp [tot]
  | v :: l => by
    have h2 := tot_le l
    simp only [tot, List.map_cons, List.sum_cons, wV]; omega
theorem wtot_le : ∀ l : List Wr, wtot l ≤ (l.map wWr).sum
  | [] => by simp [wtot]
  | w :: l => by
    have h2 := wtot_le l
    have h3 := tot_le w.row
    simp only [wtot, List.map_cons, List.sum_cons, wWr]; omega
theorem rsum_le : ∀ l : List Wr, rsum l ≤ (l.map wWr).sum
  | [] => by simp [rsum]
  | w :: l => by
    have h2 := rsum_le l
    have h3 := sum_len (f := wV) (fun x => by unfold wV; omega) w.row
    simp only [rsum, List.map_cons, List.sum_cons, wWr]; omega
theorem ltot_le : ∀ l : List (List V), ltot l ≤ (l.map fun l => (l.map wV).sum + 1).sum
  | [] => by simp [ltot]
  | w :: l => by
    have h2 := ltot_le l
    have h3 := tot_le w
    simp only [ltot, List.map_cons, List.sum_cons]; omega
theorem fits_of {l : List V} {n : Nat} (h : (l.map wV).sum ≤ n) (hn : n ≤ 2 ^ 20) (hk : ∀ v ∈ l, okV v) : ∀ v ∈ l, v.fits := fun v hv => by
  obtain ⟨⟨h1, h2⟩, h3, h4⟩ := hk v hv
  have := sum_mem (f := wV) hv
  have e : wV v = v.t.length + 4 := rfl
  exact ⟨h1, h2, h3, h4, by omega⟩

theorem back_fits (l : List Tb) (d : Dn) (e : En) (hw : (l.map wTb).sum + 1 + wDn d + wEn e ≤ 2 ^ 20) (hd : okDn d) (he : ∀ x ∈ e.lines, ∀ v ∈ x, okV v) : BackFits l d e := by
  have hl := sum_len (f := wTb) (fun x => by unfold wTb; omega) l
  unfold wDn wEn at hw
  have hdl := sum_len (f := fun _ : Int => 1) (fun x => Nat.le_refl _) d.deps
  have hwl := sum_len (f := wWr) (fun x => by unfold wWr; omega) d.writes
  have hel := sum_len (f := fun l : List V => (l.map wV).sum + 1) (fun x => by omega) e.lines
  have h1 := wtot_le d.writes
  have h2 := ltot_le e.lines
  have h3 := rsum_le d.writes
  have hrow : ∀ w ∈ d.writes, (w.row.map wV).sum ≤ 2 ^ 20 := fun w hw' => by
    have := sum_mem (f := wWr) hw'
    have e : wWr w = w.table.length + 1 + 1 + ((w.row.map wV).sum + 1) := rfl
    omega
  have hlin : ∀ x ∈ e.lines, (x.map wV).sum ≤ 2 ^ 20 := fun x hx => by
    have := sum_mem (f := fun l : List V => (l.map wV).sum + 1) hx
    omega
  have hlen : ∀ x : List V, x.length ≤ (x.map wV).sum := sum_len (f := wV) (fun x => by unfold wV; omega)
  refine ⟨by omega, fun t ht => ?_, ⟨hd.1.2.2, fun n hn => (wf_i64 (hd.2.1 n hn)).2, by omega, fun w hw' => ⟨Nat.le_trans (hlen _) (hrow w hw'), fits_of (hrow w hw') (Nat.le_refl _) (hd.2.2 w hw')⟩, by omega⟩, by omega, by omega,
    ⟨by omega, fun x hx => ⟨by have := hlen x; have := hlin x hx; omega, fits_of (hlin x hx) (Nat.le_refl _) (he x hx)⟩⟩, fun x hx => Nat.le_trans (hlen x) (hlin x hx), by omega⟩
  have a1 := sum_mem (f := wTb) ht
  have a2 := sum_len (f := wCol) (fun x => by unfold wCol; omega) t.cols
  have e1 : wTb t = t.name.length + 1 + ((t.cols.map wCol).sum + 1) := rfl
  omega
end Go.Proofs.YtjhnabdcmfjeoaaGreatDoor.Ab
