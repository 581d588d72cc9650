/- From what a row's arguments read as to abstract values: types one by one. Own work; a plain theory over any program. -/
import Derived.Test.YtjhnabdcmfjeoaaGreatDoorYD
import Derived.Test.YtjhnabdcmfjeoaaGreatDoorRows
import Derived.ChangeArms
import Derived.ReadAgain
set_option linter.unusedVariables false
set_option linter.unusedSimpArgs false
namespace Go.Proofs.YtjhnabdcmfjeoaaGreatDoor.Ab
open Go

/-- All of a world is protected. -/
def im0 (w : World) : Im := ⟨fun b o => (w.cell? ⟨b, o, none⟩).bind fun v => if v.oneCell' = true then some v else none, fun b => match w.heap[b]? with | some (.map ms c) => some (ms, c) | _ => none⟩

theorem im0_cell {w : World} {b o : Nat} {v : Value} (h : w.cell? ⟨b, o, none⟩ = some v) (h1 : v.oneCell' = true) : im0 w b o = some v := by
  show ((w.cell? ⟨b, o, none⟩).bind fun v => if v.oneCell' = true then some v else none) = some v
  rw [h]
  show (if v.oneCell' = true then some v else none) = some v
  rw [if_pos h1]

theorem imr0 (w : World) : Imr (im0 w) w := by
  refine ⟨fun b o v h => ?_, fun b x h => ?_⟩
  · change ((w.cell? ⟨b, o, none⟩).bind fun v => if v.oneCell' = true then some v else none) = some v at h
    rw [Option.bind_eq_some_iff] at h
    obtain ⟨u, h1, h2⟩ := h
    split at h2
    · rename_i h3; cases h2; exact ⟨h1, h3⟩
    · cases h2
  · change (match w.heap[b]? with | some (.map ms c) => some (ms, c) | _ => none) = some x at h
    split at h
    · rename_i ms c e; cases h; exact e
    · cases h

theorem ok0 (w : World) : Ok (here (im0 w) w []) (im0 w) w [] where
  os := rfl
  tape := rfl
  output := rfl
  size := Nat.le_refl _
  frame := fun _ _ _ => ⟨rfl, fun _ => rfl, rfl⟩
  le := Le.refl _
  imr := imr0 w
  own := by simp
  fresh := by simp [keys]
  nodup := by simp [keys]

section
variable {H : Type} (enc : TypeId × Value → H) (P : Program) (w : World)

/-- What reads at type t is some 'a', whose cells are 'rep a'; its weight is no more than the reading's bulk. -/
def Mod (t : TypeId) (α : Type) (rep : α → List AV) (wt : α → Nat) (ok : α → Prop) : Prop :=
  ∀ (fuel : Nat) (cs : List Value) (x : DataW H × List MemPlace), DataW.trod enc P w 0 (fun _ => true) true fuel t cs = some x →
    ∃ a : α, RepL (im0 w) (rep a) cs ∧ (∀ v ∈ cs, v.oneCell' = true) ∧ wt a ≤ Rows.uptoBulk x.1 ∧ ok a

variable {enc P w}

theorem repL_one {im : Im} {a : AV} {v : Value} (h : Rep im a v) : RepL im [a] [v] := ⟨rfl, fun i c u h1 h2 => by
  cases i with
  | zero => simp at h1 h2; subst h1 h2; exact h
  | succ i => simp at h1⟩

theorem mod_int {t : TypeId} {k : IntKind} (ht : (tyI P t).kind = .int k) : Mod enc P w t Int (fun n => [.s (.int k n)]) (fun _ => 1) (fun n => (Lit.int k n).wf = true) := by
  intro fuel cs x h
  obtain ⟨n, rfl, rfl, h3⟩ := DataW.trod_int (u_int ht) h
  exact ⟨n, repL_one (.s _), by simp [Value.oneCell'], by simp [Rows.uptoBulk], h3⟩

theorem mod_bool {t : TypeId} (ht : (tyI P t).kind = .bool) : Mod enc P w t Bool (fun b => [.s (.bool b)]) (fun _ => 1) (fun _ => True) := by
  intro fuel cs x h
  obtain ⟨n, rfl, rfl⟩ := DataW.trod_bool (u_bool ht) h
  exact ⟨n, repL_one (.s _), by simp [Value.oneCell'], by simp [Rows.uptoBulk], trivial⟩

theorem mod_str {t : TypeId} (ht : (tyI P t).kind = .str) : Mod enc P w t (List UInt8) (fun s => [.s (strV s)]) (fun s => s.length + 1) (fun _ => True) := by
  intro fuel cs x h
  obtain ⟨s, rfl, rfl, h3⟩ := DataW.trod_string (u_str ht) h
  exact ⟨s.data.toList, repL_one (.s _), by simp [Value.oneCell'], by simp [Rows.uptoBulk], trivial⟩

theorem list_of {α : Type} {p : Nat → α → Prop} : ∀ n, (∀ i, i < n → ∃ a, p i a) → ∃ l : List α, l.length = n ∧ ∀ i a, l[i]? = some a → p i a
  | 0, _ => ⟨[], rfl, by simp⟩
  | n + 1, h => by
    obtain ⟨l, hl, hp⟩ := list_of n fun i hi => h i (Nat.lt_succ_of_lt hi)
    obtain ⟨a, ha⟩ := h n (Nat.lt_succ_self n)
    refine ⟨l ++ [a], by simp [hl], fun i b hb => ?_⟩
    by_cases hi : i < n
    · rw [List.getElem?_append_left (by omega)] at hb; exact hp i b hb
    · rw [List.getElem?_append_right (by omega)] at hb
      have : i = n := by
        have := (List.getElem?_eq_some_iff.1 hb).1
        simp at this; omega
      subst this
      simp [hl] at hb
      subst hb; exact ha

theorem bulk_pos (d : DataW H) : 1 ≤ Rows.uptoBulk d := by
  cases d with
  | lit l => cases l <;> simp [Rows.uptoBulk]
  | _ => simp [Rows.uptoBulk]

theorem bulk_sum {α : Type} {wt : α → Nat} : ∀ (l : List α) (ds : List (DataW H)), l.length = ds.length → (∀ (i : Nat) (a : α) (d : DataW H), l[i]? = some a → ds[i]? = some d → wt a ≤ Rows.uptoBulk d) → (l.map wt).sum ≤ Rows.uptoBulkAll ds
  | [], [], _, _ => by simp [Rows.uptoBulkAll]
  | [], _ :: _, h, _ => by simp at h
  | _ :: _, [], h, _ => by simp at h
  | a :: l, d :: ds, h, hp => by
    have ih := bulk_sum l ds (by simpa using h) fun i a d h1 h2 => hp (i + 1) a d (by simpa using h1) (by simpa using h2)
    have h0 := hp 0 a d rfl rfl
    simp only [List.map_cons, List.sum_cons, Rows.uptoBulkAll]
    omega

theorem cells_get {b o n : Nat} {sp : Option Nat} {cs : List Value} (h : w.cells? 0 ⟨b, o, sp⟩ n = some cs) : cs.length = n ∧ ∀ i v, cs[i]? = some v → w.cell? (Addr.add ⟨b, o, sp⟩ i) = some v := by
  unfold World.cells? at h
  rw [if_pos (Nat.zero_le _)] at h
  refine ⟨by simpa using mapM_some_length h, fun i v hv => ?_⟩
  have hlt : i < n := by
    have := (List.getElem?_eq_some_iff.1 hv).1
    have := mapM_some_length h
    simp at this; omega
  have := mapM_some_get h i i (by simp [hlt])
  rw [this]; exact hv

theorem mod_slice {t e : TypeId} {α : Type} {rep : α → List AV} {wt : α → Nat} {ok : α → Prop} (ht : (tyI P t).kind = .slice e) {sz : Nat} (hsz : (tyI P e).size = sz) (hpos : 0 < sz) (he : Mod enc P w e α rep wt ok) (elem : α → AV)
    (hel : ∀ a, (elem a).cells = rep a) (hlen : ∀ a, (rep a).length = sz) :
    Mod enc P w t (List α) (fun l => [.lst sz (l.map elem) none]) (fun l => (l.map wt).sum + 1) (fun l => ∀ a ∈ l, ok a) := by
  intro fuel cs x h
  have hcs : P.cellsOf e = sz := hsz
  rcases DataW.trod_slice (u_slice ht) h with ⟨rfl, rfl⟩ | ⟨a, len, cap, elems, rest, n, rfl, rfl, rfl, hb, hlc, hcm, hel', hget, hsp, _⟩
  · exact ⟨[], repL_one (.lnil sz none (by simp)), by simp [Value.oneCell'], by simp [Rows.uptoBulk], by simp⟩
  · rw [hcs] at hget hsp
    obtain ⟨ab, ao, asp⟩ := a
    have hone : ∀ i, i < len → ∃ (y : DataW H × List MemPlace) (cs : List Value), elems[i]? = some y ∧ w.cells? 0 (Addr.add ⟨ab, ao, asp⟩ (i * sz)) sz = some cs ∧ DataW.trod enc P w 0 (fun _ => true) true n e cs = some y := by
      intro i hi
      have hg : elems[i]? = some elems[i] := by simp [hel', hi]
      have := hget i hi
      rw [hg, Option.bind_eq_some_iff] at this
      obtain ⟨cs, h1, h2⟩ := this
      exact ⟨_, cs, hg, h1, h2⟩
    by_cases hcap : cap = 0
    · have hl0 : len = 0 := by omega
      subst hcap hl0
      have : elems = [] := List.eq_nil_of_length_eq_zero hel'
      subst this
      exact ⟨[], repL_one (.lz sz _), by simp [Value.oneCell'], by simp [Rows.uptoBulk, Rows.uptoBulkAll], by simp⟩
    · -- a place that is read: the address is plain
      have hspot : asp = none := by
        have key : ∀ (cs : List Value), w.cells? 0 (Addr.add ⟨ab, ao, asp⟩ 0) sz = some cs → asp = none := by
          intro cs hcs0
          have : Addr.add ⟨ab, ao, asp⟩ 0 = ⟨ab, ao, asp⟩ := by simp [Addr.add]
          rw [this] at hcs0
          obtain ⟨h1, h2⟩ := cells_get hcs0
          have hg : cs[0]? = some (cs[0]'(by omega)) := by simp [h1, hpos]
          have := h2 0 _ hg
          rw [show Addr.add ⟨ab, ao, asp⟩ 0 = ⟨ab, ao, asp⟩ by simp [Addr.add]] at this
          cases asp with
          | none => rfl
          | some q =>
            simp only [World.cell?] at this
            split at this
            · simp at this
            · cases this
        by_cases hl : 0 < len
        · obtain ⟨y, cs, _, h2, _⟩ := hone 0 hl
          rw [Nat.zero_mul] at h2
          exact key cs h2
        · have hl0 : len = 0 := by omega
          obtain ⟨h1, h2⟩ := hsp rfl
          have := h2 0 (by omega)
          have hg : rest[0]? = some (rest[0]'(by omega)) := by simp
          rw [hg, Option.bind_eq_some_iff] at this
          obtain ⟨cs, h3, _⟩ := this
          rw [hl0, Nat.add_zero, Nat.zero_mul] at h3
          exact key cs h3
      subst hspot
      have hadd : ∀ i, Addr.add ⟨ab, ao, none⟩ i = ⟨ab, ao + i, none⟩ := fun i => Addr.add_lit ab ao i
      obtain ⟨l, hl, hp⟩ := list_of (α := α) (p := fun i m => ∃ (y : DataW H × List MemPlace) (cs : List Value), elems[i]? = some y ∧ w.cells? 0 ⟨ab, ao + i * sz, none⟩ sz = some cs ∧ RepL (im0 w) (rep m) cs ∧ (∀ v ∈ cs, v.oneCell' = true) ∧ wt m ≤ Rows.uptoBulk y.1 ∧ ok m) len (by
        intro i hi
        obtain ⟨y, cs, h1, h2, h3⟩ := hone i hi
        rw [hadd] at h2
        obtain ⟨m, k1, k2, k3, k4⟩ := he n cs y h3
        exact ⟨m, y, cs, h1, h2, k1, k2, k3, k4⟩)
      refine ⟨l, repL_one ?_, by simp [Value.oneCell'], ?_, ?_⟩
      · have hlm : (l.map elem).length = len := by simp [hl]
        rw [← hlm]
        refine .lst sz _ none ab ao cap (fun k => (w.cell? ⟨ab, ao + k, none⟩).getD undef) (by simp) (by rw [hlm]; exact hlc) (fun y hy => ?_) (fun i j y c hy hc => ?_) (fun i j y c hy hc => ?_)
        · obtain ⟨m, hm, rfl⟩ := List.mem_map.1 hy
          rw [hel, hlen]
        · simp only [List.getElem?_map, Option.map_eq_some_iff] at hy
          obtain ⟨m, hm, rfl⟩ := hy
          obtain ⟨y, cs, h1, h2, h3, h4, _⟩ := hp i m hm
          obtain ⟨k1, k2⟩ := cells_get h2
          rw [hel] at hc
          have hlt : j < cs.length := by rw [← h3.1]; exact (List.getElem?_eq_some_iff.1 hc).1
          have hcell := k2 j cs[j] (by simp [hlt])
          rw [Addr.add_lit] at hcell
          have e : ao + i * sz + j = ao + (i * sz + j) := by omega
          rw [e] at hcell
          simp only [hcell, Option.getD_some]
          exact im0_cell hcell (h4 _ (List.getElem_mem hlt))
        · simp only [List.getElem?_map, Option.map_eq_some_iff] at hy
          obtain ⟨m, hm, rfl⟩ := hy
          obtain ⟨y, cs, h1, h2, h3, h4, _⟩ := hp i m hm
          obtain ⟨k1, k2⟩ := cells_get h2
          rw [hel] at hc
          have hlt : j < cs.length := by rw [← h3.1]; exact (List.getElem?_eq_some_iff.1 hc).1
          have hcell := k2 j cs[j] (by simp [hlt])
          rw [Addr.add_lit] at hcell
          have e : ao + i * sz + j = ao + (i * sz + j) := by omega
          rw [e] at hcell
          simp only [hcell, Option.getD_some]
          exact h3.2 j c _ hc (by simp [hlt])
      · have := bulk_sum (wt := wt) l (elems.map (·.1)) (by simp [hl, hel']) (fun i m d h1 h2 => by
          obtain ⟨y, cs, g1, _, _, _, g2, _⟩ := hp i m h1
          simp only [List.getElem?_map, g1, Option.map_some, Option.some.injEq] at h2
          subst h2; exact g2)
        simp only [Rows.uptoBulk]; omega
      · intro m hm
        obtain ⟨i, hi⟩ := List.mem_iff_getElem?.1 hm
        obtain ⟨y, cs, _, _, _, _, _, g⟩ := hp i m hi
        exact g

theorem repL_app {im : Im} {ls bs : List AV} {xs ys : List Value} (h : RepL im ls xs) (k : RepL im bs ys) : RepL im (ls ++ bs) (xs ++ ys) := by
  refine ⟨by simp [h.1, k.1], fun i c v h1 h2 => ?_⟩
  by_cases hi : i < ls.length
  · rw [List.getElem?_append_left hi] at h1
    rw [List.getElem?_append_left (by rw [← h.1]; exact hi)] at h2
    exact h.2 i c v h1 h2
  · rw [List.getElem?_append_right (by omega)] at h1
    rw [List.getElem?_append_right (by rw [← h.1]; omega), ← h.1] at h2
    exact k.2 _ c v h1 h2

theorem Mod.map {t : TypeId} {α β : Type} {rep : α → List AV} {wt : α → Nat} {ok : α → Prop} {rep' : β → List AV} {wt' : β → Nat} {ok' : β → Prop} (h : Mod enc P w t α rep wt ok) (f : α → β) (h1 : ∀ a, rep' (f a) = rep a) (h2 : ∀ a, wt' (f a) ≤ wt a) (h3 : ∀ a, ok a → ok' (f a)) :
    Mod enc P w t β rep' wt' ok' := by
  intro fuel cs x hx
  obtain ⟨a, k1, k2, k3, k4⟩ := h fuel cs x hx
  exact ⟨f a, by rw [h1]; exact k1, k2, Nat.le_trans (h2 a) k3, h3 a k4⟩

/-- A struct's fields: types and places. -/
theorem struct_fields {t : TypeId} (ht : (tyI P t).kind = .struct) {offs fts : List Nat} (ho : (tyI P t).offs = offs) (hf : (tyI P t).fts = fts) (hl : offs.length = fts.length) {fuel : Nat} {cs : List Value} {x : DataW H × List MemPlace}
    (h : DataW.trod enc P w 0 (fun _ => true) true fuel t cs = some x) : ∃ (xs : List (DataW H × List MemPlace)) (n : Nat), x.1 = .agg (xs.map (·.1)) ∧ cs.length = (tyI P t).size ∧ xs.length = fts.length ∧
      ∀ (i o ft : Nat), offs[i]? = some o → fts[i]? = some ft → DataW.trod enc P w 0 (fun _ => true) true n ft ((cs.drop o).take (tyI P ft).size) = xs[i]? := by
  obtain ⟨fs, hu, hfs⟩ := u_struct ht
  obtain ⟨xs, n, rfl, rfl, hlen, hxl, hget⟩ := DataW.trod_struct hu h
  have hfts : fts = fs.toList.map (·.type) := by rw [← hf, ← hfs]; rfl
  refine ⟨xs, n, rfl, hlen, by rw [hxl, hfts]; simp, fun i o ft h1 h2 => ?_⟩
  rw [← ho] at h1
  obtain ⟨fd, hfd, hoff, hpos⟩ := offs_get h1
  have hfd' : fs[i]? = some fd := by rw [← Array.getElem?_toList, ← hfs]; exact hfd
  have hty : fd.type = ft := by
    rw [hfts] at h2
    simp only [List.getElem?_map, Array.getElem?_toList, hfd', Option.map_some, Option.some.injEq] at h2
    exact h2
  have := hget i fd hfd'
  rw [hoff, hty] at this
  exact this

theorem drop_take_app {cs : List Value} (a b : Nat) : (cs.drop a).take b ++ cs.drop (a + b) = cs.drop a := by
  rw [← List.drop_drop, List.take_append_drop]

theorem mod_struct2 {t t1 t2 : TypeId} {n1 n2 : Nat} (ht : (tyI P t).kind = .struct) (ho : (tyI P t).offs = [0, n1]) (hf : (tyI P t).fts = [t1, t2]) (hs : (tyI P t).size = n1 + n2) (hs1 : (tyI P t1).size = n1) (hs2 : (tyI P t2).size = n2)
    {α1 α2 : Type} {rep1 : α1 → List AV} {rep2 : α2 → List AV} {wt1 : α1 → Nat} {wt2 : α2 → Nat} {ok1 : α1 → Prop} {ok2 : α2 → Prop} (h1 : Mod enc P w t1 α1 rep1 wt1 ok1) (h2 : Mod enc P w t2 α2 rep2 wt2 ok2) :
    Mod enc P w t (α1 × α2) (fun x => rep1 x.1 ++ rep2 x.2) (fun x => wt1 x.1 + wt2 x.2) (fun x => ok1 x.1 ∧ ok2 x.2) := by
  intro fuel cs x h
  obtain ⟨xs, n, hx, hlen, hxl, hget⟩ := struct_fields ht ho hf rfl h
  obtain ⟨y1, y2, rfl⟩ : ∃ y1 y2, xs = [y1, y2] := by
    match xs, hxl with
    | [y1, y2], _ => exact ⟨y1, y2, rfl⟩
  have g1 := hget 0 0 t1 rfl rfl
  have g2 := hget 1 n1 t2 rfl rfl
  rw [hs1] at g1
  rw [hs2] at g2
  obtain ⟨a1, r1, c1, w1, k1⟩ := h1 n _ y1 g1
  obtain ⟨a2, r2, c2, w2, k2⟩ := h2 n _ y2 g2
  have e2 : (cs.drop n1).take n2 = cs.drop n1 := List.take_of_length_le (by simp; omega)
  have e : (cs.drop 0).take n1 ++ (cs.drop n1).take n2 = cs := by rw [e2]; simp
  refine ⟨(a1, a2), ?_, ?_, ?_, k1, k2⟩
  · have := repL_app r1 r2
    rw [e] at this; exact this
  · intro v hv
    rw [← e] at hv
    rcases List.mem_append.1 hv with hv | hv
    · exact c1 v hv
    · exact c2 v hv
  · rw [hx]; simp [Rows.uptoBulk, Rows.uptoBulkAll]; omega

theorem mod_struct3 {t t1 t2 t3 : TypeId} {n1 n2 n3 o2 : Nat} (ht : (tyI P t).kind = .struct) (ho : (tyI P t).offs = [0, n1, o2]) (ho2 : o2 = n1 + n2) (hf : (tyI P t).fts = [t1, t2, t3]) (hs : (tyI P t).size = o2 + n3) (hs1 : (tyI P t1).size = n1) (hs2 : (tyI P t2).size = n2) (hs3 : (tyI P t3).size = n3)
    {α1 α2 α3 : Type} {rep1 : α1 → List AV} {rep2 : α2 → List AV} {rep3 : α3 → List AV} {wt1 : α1 → Nat} {wt2 : α2 → Nat} {wt3 : α3 → Nat} {ok1 : α1 → Prop} {ok2 : α2 → Prop} {ok3 : α3 → Prop}
    (h1 : Mod enc P w t1 α1 rep1 wt1 ok1) (h2 : Mod enc P w t2 α2 rep2 wt2 ok2) (h3 : Mod enc P w t3 α3 rep3 wt3 ok3) :
    Mod enc P w t (α1 × α2 × α3) (fun x => rep1 x.1 ++ (rep2 x.2.1 ++ rep3 x.2.2)) (fun x => wt1 x.1 + wt2 x.2.1 + wt3 x.2.2) (fun x => ok1 x.1 ∧ ok2 x.2.1 ∧ ok3 x.2.2) := by
  subst ho2
  intro fuel cs x h
  obtain ⟨xs, n, hx, hlen, hxl, hget⟩ := struct_fields ht ho hf rfl h
  obtain ⟨y1, y2, y3, rfl⟩ : ∃ y1 y2 y3, xs = [y1, y2, y3] := by
    match xs, hxl with
    | [y1, y2, y3], _ => exact ⟨y1, y2, y3, rfl⟩
  have g1 := hget 0 0 t1 rfl rfl
  have g2 := hget 1 n1 t2 rfl rfl
  have g3 := hget 2 (n1 + n2) t3 rfl rfl
  rw [hs1] at g1
  rw [hs2] at g2
  rw [hs3] at g3
  obtain ⟨a1, r1, c1, w1, k1⟩ := h1 n _ y1 g1
  obtain ⟨a2, r2, c2, w2, k2⟩ := h2 n _ y2 g2
  obtain ⟨a3, r3, c3, w3, k3⟩ := h3 n _ y3 g3
  have e3 : (cs.drop (n1 + n2)).take n3 = cs.drop (n1 + n2) := List.take_of_length_le (by simp; omega)
  have e : (cs.drop 0).take n1 ++ ((cs.drop n1).take n2 ++ (cs.drop (n1 + n2)).take n3) = cs := by rw [e3, drop_take_app]; simp
  refine ⟨(a1, a2, a3), ?_, ?_, ?_, k1, k2, k3⟩
  · have := repL_app r1 (repL_app r2 r3)
    rw [e] at this; exact this
  · intro v hv
    rw [← e] at hv
    rcases List.mem_append.1 hv with hv | hv
    · exact c1 v hv
    · rcases List.mem_append.1 hv with hv | hv
      · exact c2 v hv
      · exact c3 v hv
  · rw [hx]; simp [Rows.uptoBulk, Rows.uptoBulkAll]; omega

theorem mod_struct4 {t t1 t2 t3 t4 : TypeId} {n1 n2 n3 n4 o2 o3 : Nat} (ht : (tyI P t).kind = .struct) (ho : (tyI P t).offs = [0, n1, o2, o3]) (ho2 : o2 = n1 + n2) (ho3 : o3 = n1 + n2 + n3) (hf : (tyI P t).fts = [t1, t2, t3, t4]) (hs : (tyI P t).size = o3 + n4)
    (hs1 : (tyI P t1).size = n1) (hs2 : (tyI P t2).size = n2) (hs3 : (tyI P t3).size = n3) (hs4 : (tyI P t4).size = n4)
    {α1 α2 α3 α4 : Type} {rep1 : α1 → List AV} {rep2 : α2 → List AV} {rep3 : α3 → List AV} {rep4 : α4 → List AV} {wt1 : α1 → Nat} {wt2 : α2 → Nat} {wt3 : α3 → Nat} {wt4 : α4 → Nat} {ok1 : α1 → Prop} {ok2 : α2 → Prop} {ok3 : α3 → Prop} {ok4 : α4 → Prop}
    (h1 : Mod enc P w t1 α1 rep1 wt1 ok1) (h2 : Mod enc P w t2 α2 rep2 wt2 ok2) (h3 : Mod enc P w t3 α3 rep3 wt3 ok3) (h4 : Mod enc P w t4 α4 rep4 wt4 ok4) :
    Mod enc P w t (α1 × α2 × α3 × α4) (fun x => rep1 x.1 ++ (rep2 x.2.1 ++ (rep3 x.2.2.1 ++ rep4 x.2.2.2))) (fun x => wt1 x.1 + wt2 x.2.1 + wt3 x.2.2.1 + wt4 x.2.2.2) (fun x => ok1 x.1 ∧ ok2 x.2.1 ∧ ok3 x.2.2.1 ∧ ok4 x.2.2.2) := by
  subst ho2 ho3
  intro fuel cs x h
  obtain ⟨xs, n, hx, hlen, hxl, hget⟩ := struct_fields ht ho hf rfl h
  obtain ⟨y1, y2, y3, y4, rfl⟩ : ∃ y1 y2 y3 y4, xs = [y1, y2, y3, y4] := by
    match xs, hxl with
    | [y1, y2, y3, y4], _ => exact ⟨y1, y2, y3, y4, rfl⟩
  have g1 := hget 0 0 t1 rfl rfl
  have g2 := hget 1 n1 t2 rfl rfl
  have g3 := hget 2 (n1 + n2) t3 rfl rfl
  have g4 := hget 3 (n1 + n2 + n3) t4 rfl rfl
  rw [hs1] at g1
  rw [hs2] at g2
  rw [hs3] at g3
  rw [hs4] at g4
  obtain ⟨a1, r1, c1, w1, k1⟩ := h1 n _ y1 g1
  obtain ⟨a2, r2, c2, w2, k2⟩ := h2 n _ y2 g2
  obtain ⟨a3, r3, c3, w3, k3⟩ := h3 n _ y3 g3
  obtain ⟨a4, r4, c4, w4, k4⟩ := h4 n _ y4 g4
  have e4 : (cs.drop (n1 + n2 + n3)).take n4 = cs.drop (n1 + n2 + n3) := List.take_of_length_le (by simp; omega)
  have e : (cs.drop 0).take n1 ++ ((cs.drop n1).take n2 ++ ((cs.drop (n1 + n2)).take n3 ++ (cs.drop (n1 + n2 + n3)).take n4)) = cs := by rw [e4, drop_take_app, drop_take_app]; simp
  refine ⟨(a1, a2, a3, a4), ?_, ?_, ?_, k1, k2, k3, k4⟩
  · have := repL_app r1 (repL_app r2 (repL_app r3 r4))
    rw [e] at this; exact this
  · intro v hv
    rw [← e] at hv
    rcases List.mem_append.1 hv with hv | hv
    · exact c1 v hv
    · rcases List.mem_append.1 hv with hv | hv
      · exact c2 v hv
      · rcases List.mem_append.1 hv with hv | hv
        · exact c3 v hv
        · exact c4 v hv
  · rw [hx]; simp [Rows.uptoBulk, Rows.uptoBulkAll]; omega
end
end Go.Proofs.YtjhnabdcmfjeoaaGreatDoor.Ab
