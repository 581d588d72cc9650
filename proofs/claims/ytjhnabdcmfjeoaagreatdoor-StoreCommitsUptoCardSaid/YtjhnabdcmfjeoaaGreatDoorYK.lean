/- A nil list in a box's cell becomes an owned empty one. Own work. -/
import Derived.Test.YtjhnabdcmfjeoaaGreatDoorYJ
import Derived.Test.YtjhnabdcmfjeoaaGreatDoorYD
set_option linter.unusedSimpArgs false
set_option linter.unusedVariables false
namespace Go.Proofs.YtjhnabdcmfjeoaaGreatDoor.Ab
open Go

/-- A box's cells are read otherwise. -/
theorem Ok.reread {B : Base} {im : Im} {w : World} {H : AHeap} {l b : Nat} {T : TypeId} {cs cs' : List AV} (h : Ok B im w ((l, .box b T cs) :: H)) (hl : cs'.length = cs.length)
    (hv : ∀ (i : Nat) (c c' : AV), cs[i]? = some c → cs'[i]? = some c' → Sub c c') : Ok B im w ((l, .box b T cs') :: H) where
  os := h.os
  tape := h.tape
  output := h.output
  size := h.size
  frame := h.frame
  le := h.le
  imr := h.imr
  own := fun x hx => by
    rcases List.mem_cons.1 hx with rfl | hx
    · obtain ⟨vs, h1, h2, h3, h4⟩ := h.own (l, .box b T cs) List.mem_cons_self
      refine ⟨vs, h1, by rw [h2, hl], fun i c' v hc hv' => ?_, h4⟩
      have hlt : i < cs.length := by rw [← hl]; exact (List.getElem?_eq_some_iff.1 hc).1
      have hg : cs[i]? = some cs[i] := by simp [hlt]
      exact ⟨hv i _ c' hg hc im v (h3 i _ v hg hv').1, (h3 i _ v hg hv').2⟩
    · exact h.own x (List.mem_cons_of_mem _ hx)
  fresh := fun k hk => h.fresh k (by simpa [keys, List.filterMap_cons, Res.key] using hk)
  nodup := by simpa [keys, List.filterMap_cons, Res.key] using h.nodup

theorem Sub.nilOwn (sz L : Nat) : Sub (.s (.slice none 0 0)) (.lst sz [] (some (L, .nil))) := fun im v h => by rw [sInv h]; exact .lnil sz _ fun l b cap e => by cases e

/-- A cell k of a box that holds nil holds an owned empty list. -/
theorem W_nilCell {C : Cx} {c : Code} {E : Env} {H : AHeap} {Q : Exit → Env → AHeap → Prop} {l b : Nat} {T : TypeId} {cs : List AV} (k : Nat) (U : TypeId) (sz L : Nat) (hk : cs[k]? = some (.s (.slice none 0 0)))
    (h : W C c E ((L, .own U sz 0 .nil) :: (l, .box b T (cs.set k (.lst sz [] (some (L, .nil))))) :: H) Q) : W C c E ((l, .box b T cs) :: H) Q := by
  intro B im a w hst
  have hok : Ok B im w ((l, .box b T (cs.set k (.lst sz [] (some (L, .nil))))) :: H) := hst.ok.reread (by simp) fun i x y hx hy => by
    rw [List.getElem?_set] at hy
    split at hy
    · rename_i e
      subst e
      split at hy
      · cases hy; rw [hk] at hx; cases hx; exact Sub.nilOwn _ _
      · cases hy
    · rw [hx] at hy; cases hy; exact Sub.refl _
  exact h B im a w ⟨hok.add L (.own U sz 0 .nil) trivial (fun k hk => by cases hk), hst.env, hst.glo, hst.defers, hst.size⟩

/-- What is owned stands in another order. -/
theorem W_perm {C : Cx} {c : Code} {E : Env} {H H' : AHeap} {Q : Exit → Env → AHeap → Prop} (hp : H.Perm H') (h : W C c E H' Q) : W C c E H Q :=
  fun B im a w hst => h B im a w ⟨hst.ok.perm hp, hst.env, hst.glo, hst.defers, hst.size⟩
end Go.Proofs.YtjhnabdcmfjeoaaGreatDoor.Ab
/- Slots and lists read with less. Own work; a plain theory over any program. -/
set_option linter.unusedSimpArgs false
set_option linter.unusedVariables false
namespace Go.Proofs.YtjhnabdcmfjeoaaGreatDoor.Ab
open Go

/-- A slot is read with less. -/
theorem W_slot {C : Cx} {c : Code} {E : Env} {H : AHeap} {Q : Exit → Env → AHeap → Prop} (t : Nat) (v : AV) (hs : Sub (E t) v) (h : W C c (upd E t v) H Q) : W C c E H Q :=
  fun B im a w hst => h B im a w ⟨hst.ok, repE_upd_same hst.env (hs _ _ (hst.env t)), hst.glo, hst.defers, hst.size⟩

theorem Sub.trans {a b c : AV} (h : Sub a b) (k : Sub b c) : Sub a c := fun im v r => k im v (h im v r)

/-- Cell by cell. -/
def SubC (xs ys : List AV) : Prop := xs.length = ys.length ∧ ∀ (i : Nat) (a b : AV), xs[i]? = some a → ys[i]? = some b → Sub a b
theorem SubC.refl (xs : List AV) : SubC xs xs := ⟨rfl, fun i a b h1 h2 => by rw [h1] at h2; cases h2; exact Sub.refl _⟩
theorem SubC.cons {x y : AV} {xs ys : List AV} (h : Sub x y) (k : SubC xs ys) : SubC (x :: xs) (y :: ys) := ⟨by simp [k.1], fun i a b h1 h2 => by
  cases i with
  | zero => simp at h1 h2; subst h1 h2; exact h
  | succ i => exact k.2 i a b (by simpa using h1) (by simpa using h2)⟩
theorem SubC.nil : SubC [] [] := ⟨rfl, fun i a b h => by simp at h⟩
theorem SubC.agg {xs ys : List AV} (h : SubC xs ys) : Sub (.agg xs) (.agg ys) := Sub.agg h.1 h.2
theorem SubC.tup {xs ys : List AV} (h : SubC xs ys) : Sub (.tup xs) (.tup ys) := Sub.tup h.1 h.2

/-- Element by element. -/
theorem Sub.lst {sz : Nat} {es es' : List AV} {o : Option (Nat × Own)} (hl : es.length = es'.length) (h : ∀ (i : Nat) (a b : AV), es[i]? = some a → es'[i]? = some b → SubC a.cells b.cells) : Sub (.lst sz es o) (.lst sz es' o) := by
  intro im v r
  cases r with
  | lnil _ _ ho =>
    have : es' = [] := by simpa using hl.symm
    subst this
    exact .lnil sz o ho
  | lz _ ad =>
    have : es' = [] := by simpa using hl.symm
    subst this
    exact .lz sz ad
  | lst _ _ _ b off cap f ho hc hz h1 h2 =>
    have key : ∀ (i : Nat) (b : AV), es'[i]? = some b → ∃ a, es[i]? = some a ∧ SubC a.cells b.cells := by
      intro i b hb
      have hlt : i < es.length := by rw [hl]; exact (List.getElem?_eq_some_iff.1 hb).1
      exact ⟨es[i], by simp [hlt], h i _ b (by simp [hlt]) hb⟩
    rw [hl]
    refine .lst sz es' o b off cap f ho (by rw [← hl]; exact hc) (fun e he => ?_) (fun i j e c he hec => ?_) (fun i j e c he hec => ?_)
    · obtain ⟨i, hi⟩ := List.mem_iff_getElem?.1 he
      obtain ⟨a, ha, hs⟩ := key i e hi
      rw [← hs.1]; exact hz a (List.mem_of_getElem? ha)
    · obtain ⟨a, ha, hs⟩ := key i e he
      have hlt : j < a.cells.length := by rw [hs.1]; exact (List.getElem?_eq_some_iff.1 hec).1
      exact h1 i j a a.cells[j] ha (by simp [hlt])
    · obtain ⟨a, ha, hs⟩ := key i e he
      have hlt : j < a.cells.length := by rw [hs.1]; exact (List.getElem?_eq_some_iff.1 hec).1
      exact hs.2 j a.cells[j] c (by simp [hlt]) hec im _ (h2 i j a a.cells[j] ha (by simp [hlt]))

theorem Sub.snoc {sz : Nat} {es : List AV} {x y : AV} {o : Option (Nat × Own)} (h : SubC x.cells y.cells) : Sub (.lst sz (es ++ [x]) o) (.lst sz (es ++ [y]) o) := Sub.lst (by simp) fun i a b h1 h2 => by
  by_cases hi : i < es.length
  · rw [List.getElem?_append_left hi] at h1 h2
    rw [h1] at h2; cases h2; exact SubC.refl _
  · rw [List.getElem?_append_right (by omega)] at h1 h2
    have : i - es.length = 0 := by
      refine Nat.eq_zero_of_not_pos fun hp => ?_
      have := (List.getElem?_eq_some_iff.1 h1).1
      simp at this; omega
    rw [this] at h1 h2
    simp at h1 h2
    subst h1 h2; exact h

theorem Sub.single {x y : AV} (h : Sub x y) (hx : x.cells = [x]) (hy : y.cells = [y]) : SubC x.cells y.cells := by
  rw [hx, hy]; exact SubC.cons h SubC.nil

/-- A box of the heap is read otherwise. -/
theorem W_box {C : Cx} {c : Code} {E : Env} {H : AHeap} {Q : Exit → Env → AHeap → Prop} {l b : Nat} {T : TypeId} {cs : List AV} (cs' : List AV) (hs : SubC cs cs') (h : W C c E ((l, .box b T cs') :: H) Q) : W C c E ((l, .box b T cs) :: H) Q :=
  fun B im a w hst => h B im a w ⟨hst.ok.reread hs.1.symm fun i c c' h1 h2 => hs.2 i c c' h1 h2, hst.env, hst.glo, hst.defers, hst.size⟩

/-- An owned list in a slot gets another label. -/
theorem W_relabel {C : Cx} {c : Code} {E : Env} {H : AHeap} {Q : Exit → Env → AHeap → Prop} (t L L' : Nat) {T : TypeId} {sz n : Nat} {es : List AV} {q : Own} (hE : E t = .lst sz es (some (L, q)))
    (h : W C c (upd E t (.lst sz es (some (L', q)))) ((L', .own T sz n q) :: H) Q) : W C c E ((L, .own T sz n q) :: H) Q :=
  fun B im a w hst => h B im a w ⟨hst.ok.relabel, repE_upd_same hst.env (by have := hst.env t; rw [hE] at this; exact this.relabel), hst.glo, hst.defers, hst.size⟩

/-- Slot t holds an owned list. -/
def ownAt (E : Env) (H : AHeap) (t : Nat) (T : TypeId) (sz : Nat) (es : List AV) : Prop := ∃ L q, E t = .lst sz es (some (L, q)) ∧ find L H = some (.own T sz es.length q)
/-- The owned list of a slot gets a label of its own; all else is forgotten. -/
theorem W_norm {C : Cx} {c : Code} {E : Env} {H : AHeap} {Q : Exit → Env → AHeap → Prop} (t L' : Nat) {T : TypeId} {sz : Nat} {es : List AV} (ho : ownAt E H t T sz es)
    (h : ∀ q, W C c (upd E t (.lst sz es (some (L', q)))) [(L', .own T sz es.length q)] Q) : W C c E H Q := by
  obtain ⟨L, q, h1, h2⟩ := ho
  refine W_pick [L] (by simp) ?_
  simp only [pickL_cons, h2, pickC_some, pickL_nil]
  exact W_relabel t L L' h1 (h q)
end Go.Proofs.YtjhnabdcmfjeoaaGreatDoor.Ab
/- The contract of store's DecodeDone. Own work. -/
set_option linter.unusedSimpArgs false
set_option linter.unusedVariables false
namespace Go.Proofs.YtjhnabdcmfjeoaaGreatDoor.Ab
open Go

def rdDeps : Nat → Rd → List Int → Rd × List Int
  | 0, s, acc => (s, acc)
  | n + 1, s, acc => rdDeps n (rdUint s 9223372036854775807).1 (acc ++ [((rdUint s 9223372036854775807).2 : Int)])
def rdWrites (ts : List Tb) : Nat → Rd → List Wr → Rd × List Wr
  | 0, s, acc => (s, acc)
  | n + 1, s, acc => if s.2 = true then (s, acc) else rdWrites ts n (rdWrite s ts).1 (acc ++ [(rdWrite s ts).2])
def noDn : Dn := ⟨0, 0, [], []⟩
def decHead (b : List UInt8) : Rd := ((rdByte (b, false) 1).1.1, decide ((rdByte (b, false) 1).2 ≠ 1))
def decD (ts : List Tb) (b : List UInt8) : Dn × Nat :=
  let s2 := rdUint (decHead b) 9223372036854775807
  let s3 := rdUint s2.1 16
  let s4 := rdDeps s3.2 s3.1 []
  let s5 := rdMany s4.1
  let s6 := rdWrites ts s5.2 s5.1 []
  if s6.1.2 = true ∨ s6.1.1 ≠ [] ∨ s2.2 < 1 then (noDn, 3) else (⟨0, s2.2, s4.2, s6.2⟩, 0)

theorem CallsA.rdF {P : Program} {gl : Nat → AV} {f : FuncId} {args : List AV} {l b : Nat} {v : AV} {s s' : Rd} {o : Option (Nat × Own)} {H : AHeap} {R : AV → AHeap → Prop} (h : CallsA P gl f args [rdH l b s o] (retRd l b v s')) (hf : find l H = some (rdH l b s o).2)
    (hR : ∀ o', R v (rdH l b s' o' :: erase l H)) : CallsA P gl f args H R :=
  (h.frameF hf).mono fun av H' ⟨H1, e, e1, o', e2⟩ => by subst e e1 e2; exact hR o'

theorem rdUint_le (s : Rd) (m : Int) (h : 0 ≤ m) : ((rdUint s m).2 : Int) ≤ m := by
  unfold rdUint
  split
  · exact h
  · rename_i h; simp only; omega
theorem sub_noDn : Sub (.tup [.agg [.s (.int .i64 0), .s (.int .i64 0), .s (.slice none 0 0), .s (.slice none 0 0)], .s (.iface 65 (.int .i64 3))]) (.tup [dA noDn, errA 3]) := Sub.tup2 (Sub.agg rfl fun i a b ha hb => by
  match i with
  | 0 => simp [noDn] at ha hb; subst ha hb; exact Sub.refl _
  | 1 => simp [noDn] at ha hb; subst ha hb; exact Sub.refl _
  | 2 => simp [noDn, intsA] at ha hb; subst ha hb; exact Sub.nil _
  | 3 => simp [noDn, wsA] at ha hb; subst ha hb; exact Sub.nil _
  | i + 4 => simp at ha) (Sub.refl _)
theorem rdValues_len (s : Rd) : (rdValues s).1.1.length ≤ s.1.length := by
  unfold rdValues rdText
  split <;> simp
theorem rdRow_len (s : Rd) (t : Tb) : (rdRow s t).1.1.length ≤ s.1.length := by
  unfold rdRow rdText
  split <;> simp
theorem rdWrite_len (s : Rd) (ts : List Tb) : (rdWrite s ts).1.1.length ≤ s.1.length := by
  have h1 := rdUint_len s 32
  have h2 := rdByte_len (rdUint s 32).1 1
  have h3 := rdValues_len (rdByte (rdUint s 32).1 1).1
  have h4 := rdRow_len (rdByte (rdUint s 32).1 1).1 (tableE ts (rdUint s 32).2).1
  unfold rdWrite
  split
  · exact h1
  · split
    · split <;> (simp only; omega)
    · simp only; omega
theorem rdDeps_len : ∀ (n : Nat) (s : Rd) (acc : List Int), (rdDeps n s acc).1.1.length ≤ s.1.length
  | 0, s, acc => Nat.le_refl _
  | n + 1, s, acc => Nat.le_trans (rdDeps_len n _ _) (rdUint_len s _)

set_option maxRecDepth 20000
theorem decodeDone_ok (gl : Nat → AV) (m : Int) (hm : GInt gl 1 m) (ts : List Tb) (b : List UInt8) (o : Option (Nat × Own)) (hb : b.length < 4294967280) (hts : ∀ t ∈ ts, t.cols.length ≤ 2 ^ 30) :
    PureA Tryz.prog gl 10 [catA ts, .lst 1 (bytesA b) o] (.tup [dA (decD ts b).1, errA (decD ts b).2]) := by
  refine PureA.ofSub ?_
  refine calls_of_code (C := ⟨Tryz.prog, gl, 60, [10]⟩) (fn := Tryz.f10) rfl rfl rfl (by simp) (vc_sound _ _ _ _ ?_)
  generalize hR : decD ts b = R
  simp [Tryz.f10]
  intro b4 b10
  refine (rdByte_ok gl 10 b10 (b, false) o 1).rdP (List.Perm.refl _) fun o1 => ?_
  simp [rdH]
  have hh : (!decide (((rdByte (b, false) 1).2 : Int) = 1)) = (decHead b).2 := by
    simp only [decHead]
    by_cases h : (rdByte (b, false) 1).2 = 1
    · simp [h]
    · have : ¬ ((rdByte (b, false) 1).2 : Int) = 1 := by omega
      simp [h, this]
  have hl0 : (decHead b).1.length ≤ b.length := rdByte_len (b, false) 1
  rw [hh]
  refine (rdUint_ok gl 10 b10 (decHead b) o1 9223372036854775807 (by omega) (by omega) (by omega)).rdP (List.Perm.refl _) fun o2 => ?_
  have hl1 := rdUint_len (decHead b) 9223372036854775807
  unfold decD at hR
  simp only at hR
  generalize rdUint (decHead b) 9223372036854775807 = s2 at hl1 hR ⊢
  obtain ⟨s2, num⟩ := s2
  simp only at hl1 hR ⊢
  simp [rdH]
  intro b7
  refine (rdUint_ok gl 10 b10 s2 o2 16 (by omega) (by omega) (by omega)).rdP (List.Perm.swap _ _ _) fun o3 => ?_
  have hl2 := rdUint_len s2 16
  have hn16 := rdUint_le s2 16 (by omega)
  generalize rdUint s2 16 = s3 at hl2 hn16 hR ⊢
  obtain ⟨s3, n⟩ := s3
  simp only at hl2 hn16 hR ⊢
  simp [rdH]
  refine W_nilCell (l := 7) (b := b7) (k := 2) (U := 3) (sz := 1) (L := 29) rfl ?_ |> W_perm (List.Perm.swap _ _ _)
  obtain ⟨I, hI⟩ : ∃ I : Nat → Env → AHeap → Prop, I = fun k E H => ∃ (i : Nat) (s : Rd) (acc : List Int) (q : Own) (o' : Option (Nat × Own)), k = n - i ∧ i ≤ n ∧ E 22 = .s (.int .i64 i) ∧ E 21 = .s (.int .i64 n) ∧ E 0 = catA ts ∧ E 6 = .ptr 10 b10 0 ∧ E 7 = .ptr 7 b7 0 ∧ E 4 = .ptr 4 b4 0 ∧
    H = [(29, .own 3 1 acc.length q), (7, .box b7 35 [.s (.int .i64 0), .s (.int .i64 num), .lst 1 (intsA acc) (some (29, q)), .s (.slice none 0 0)]), rdH 10 b10 s o', (4, .box b4 35 [.s (.int .i64 0), .s (.int .i64 0), .s (.slice none 0 0), .s (.slice none 0 0)])] ∧
    rdDeps (n - i) s acc = rdDeps n s3 [] ∧ s.1.length ≤ s3.1.length ∧ acc.length = i := ⟨_, rfl⟩
  refine W_loopN [29, 7, 10, 4] (by decide) I n ?_ ?_
  · rw [hI]
    exact ⟨0, s3, [], .nil, o3, rfl, by omega, by simp, by simp, by simp [argE], by simp, by simp, by simp, by simp [rdH, intsA], rfl, Nat.le_refl _, rfl⟩
  · intro k E H hi0
    rw [hI] at hi0
    obtain ⟨i, s, acc, q, o', rfl, hi, h22, h21, h0, h6, h7, h4, rfl, hdep, hsl, hal⟩ := hi0
    refine vc_sound _ _ _ _ ?_
    by_cases hlt : i < n
    · simp [h22, h21, h0, h6, h7, h4, hlt]
      refine W_draw (.val 0 <| .val 1 <| .val 2 <| .one 3 [1] <| .val 4 <| .one 5 [] <| .val 6 <| .one 7 [] .done) hmix (by kernel_rfl) (by kernel_rfl) ?_
      simp [h22, h21, h0, h6, h7, h4, hlt]
      refine (rdUint_ok gl 10 b10 s o' 9223372036854775807 (by omega) (by omega) (by omega)).rdF rfl fun o3 => ?_
      simp [h22, h21, h0, h6, h7, h4, hlt, rdH, pureG, pureO, opVal]
      rw [wrap_i64_in _ (by omega) (by omega)]
      refine ⟨by decide, by omega, by omega, fun q' => ⟨n - (i + 1), by omega, ?_⟩⟩
      rw [hI]
      have hul := rdUint_len s 9223372036854775807
      refine ⟨i + 1, (rdUint s 9223372036854775807).1, acc ++ [((rdUint s 9223372036854775807).2 : Int)], q', o3, rfl, by omega, by simp, by simp [h21], by simp [h0], by simp [h6], by simp [h7], by simp [h4], by simp [rdH, intsA], ?_, by omega, by simp [hal]⟩
      rw [← hdep, show n - i = n - (i + 1) + 1 by omega]; rfl
    · have hin : i = n := by omega
      subst hin
      rw [Nat.sub_self] at hdep
      simp only [rdDeps] at hdep
      rw [← hdep] at hR
      simp [h22, h21, h0, h6, h7, h4]
      refine (rdMany_ok gl 10 b10 s o' (by omega)).rdF rfl fun o4 => ?_
      have hl5 : (rdMany s).1.1.length ≤ s.1.length := rdUint_len s _
      have hk5 : ((rdMany s).2 : Int) ≤ s.1.length := rdUint_le s _ (by omega)
      generalize rdMany s = s5 at hl5 hk5 hR ⊢
      obtain ⟨s5, k⟩ := s5
      simp only at hl5 hk5 hR ⊢
      simp [h22, h21, h0, h6, h7, h4, rdH]
      refine W_pick [7, 10, 4] (by decide) ?_
      simp
      refine W_nilCell (l := 7) (b := b7) (k := 3) (U := 68) (sz := 3) (L := 46) rfl ?_
      obtain ⟨J, hJ⟩ : ∃ J : Nat → Env → AHeap → Prop, J = fun j E H => ∃ (i : Nat) (s : Rd) (ws : List Wr) (p : Own) (o' : Option (Nat × Own)), j = k - i ∧ i ≤ k ∧ E 34 = .s (.int .i64 i) ∧ E 33 = .s (.int .i64 k) ∧ E 0 = catA ts ∧ E 6 = .ptr 10 b10 0 ∧ E 7 = .ptr 7 b7 0 ∧ E 4 = .ptr 4 b4 0 ∧
        H = [(46, .own 68 3 ws.length p), (7, .box b7 35 [.s (.int .i64 0), .s (.int .i64 num), .lst 1 (intsA acc) (some (29, q)), .lst 3 (wsA ws) (some (46, p))]), rdH 10 b10 s o', (4, .box b4 35 [.s (.int .i64 0), .s (.int .i64 0), .s (.slice none 0 0), .s (.slice none 0 0)])] ∧
        rdWrites ts (k - i) s ws = rdWrites ts k s5 [] ∧ s.1.length ≤ s5.1.length ∧ ws.length = i := ⟨_, rfl⟩
      refine W_loopN [46, 7, 10, 4] (by decide) J k ?_ ?_
      · rw [hJ]
        exact ⟨0, s5, [], .nil, o4, rfl, by omega, by simp, by simp, by simp [h0], by simp [h6], by simp [h7], by simp [h4], by simp [rdH, wsA], rfl, Nat.le_refl _, rfl⟩
      · intro j E H hi0
        rw [hJ] at hi0
        obtain ⟨i, s, ws, p, o', rfl, hi, h34, h33, h0, h6, h7, h4, rfl, hws, hsl, hal⟩ := hi0
        refine vc_sound _ _ _ _ ?_
        by_cases hgo : i < k ∧ s.2 = false
        · obtain ⟨hlt, hbad⟩ := hgo
          simp [h34, h33, h0, h6, h7, h4, hlt, hbad, rdH]
          refine W_draw (.val 0 <| .val 1 <| .val 2 <| .val 3 <| .one 4 [1] <| .val 5 <| .one 6 [] <| .val 7 <| .one 8 [] .done) hmix (by kernel_rfl) (by kernel_rfl) ?_
          simp [h34, h33, h0, h6, h7, h4]
          refine (rdWrite_ok gl m hm 10 b10 s ts o' (by omega) hts (by decide) (by decide) (by decide)).rdF (by simp [rdH, hbad]) fun o3 => ?_
          have hul := rdWrite_len s ts
          have hwe : wsA ws ++ [wA (rdWrite s ts).2] = wsA (ws ++ [(rdWrite s ts).2]) := by simp [wsA]
          have hwe2 : wA (rdWrite s ts).2 = .agg [.s (strV (rdWrite s ts).2.table), .s (.bool (rdWrite s ts).2.gone), .lst 4 (vsA (rdWrite s ts).2.row) none] := rfl
          rw [hwe2] at hwe
          rw [hwe2]
          simp only [strV] at hwe
          simp [h34, h33, h0, h6, h7, h4, rdH, pureG, pureO, opVal]
          rw [wrap_i64_in _ (by omega) (by omega)]
          refine ⟨by decide, by omega, by omega, fun q' => ⟨k - (i + 1), by omega, ?_⟩⟩
          rw [hJ]
          refine ⟨i + 1, (rdWrite s ts).1, ws ++ [(rdWrite s ts).2], q', o3, rfl, by omega, by simp, by simp [h33], by simp [h0], by simp [h6], by simp [h7], by simp [h4], by simp [rdH, hwe], ?_, by omega, by simp [hal]⟩
          rw [← hws, show k - i = k - (i + 1) + 1 by omega]
          simp [rdWrites, hbad]
        · have hend : rdWrites ts k s5 [] = (s, ws) := by
            rw [← hws]
            by_cases hlt : i < k
            · have hb : s.2 = true := by cases h : s.2 <;> simp_all
              rw [show k - i = k - (i + 1) + 1 by omega]
              simp [rdWrites, hb]
            · rw [show k - i = 0 by omega]; rfl
          rw [hend] at hR
          simp only at hR
          by_cases hlt : i < k
          · have hb : s.2 = true := by cases h : s.2 <;> simp_all
            rw [if_pos (.inl hb)] at hR
            subst hR
            simp [h34, h33, h0, h6, h7, h4, hlt, hb, rdH]
            refine (rdDone_ok gl 10 b10 s o').rdF (by simp [rdH, hb]) fun o3 => ?_
            simp [h34, h33, h0, h6, h7, h4, rdH, hb]
            exact sub_noDn
          · simp [h34, h33, h0, h6, h7, h4, hlt, rdH]
            refine (rdDone_ok gl 10 b10 s o').rdF (by simp [rdH]) fun o3 => ?_
            by_cases hbad : s.2 = true ∨ s.1 ≠ [] ∨ num < 1
            · rw [if_pos hbad] at hR
              subst hR
              by_cases b1 : s.2 = true
              · simp [h34, h33, h0, h6, h7, h4, rdH, b1]
                exact sub_noDn
              · have b1' : s.2 = false := by simpa using b1
                by_cases b2 : s.1 = []
                · have b3 : (num : Int) < 1 := by
                    rcases hbad with h | h | h
                    · exact absurd h b1
                    · exact absurd b2 h
                    · omega
                  simp [h34, h33, h0, h6, h7, h4, rdH, b1', b2, b3]
                  exact sub_noDn
                · simp [h34, h33, h0, h6, h7, h4, rdH, b1', b2]
                  exact sub_noDn
            · rw [if_neg hbad] at hR
              subst hR
              have b1 : s.2 = false := by cases h : s.2 <;> simp_all
              have b2 : s.1 = [] := by simpa using fun h => hbad (.inr (.inl h))
              have b3 : ¬ (num : Int) < 1 := fun h => hbad (.inr (.inr (by omega)))
              simp [h34, h33, h0, h6, h7, h4, rdH, b1, b2, b3]
              exact Sub.tup2 (Sub.agg rfl fun i a b ha hb => by
                match i with
                | 0 => simp at ha hb; subst ha hb; exact Sub.refl _
                | 1 => simp at ha hb; subst ha hb; exact Sub.refl _
                | 2 => simp at ha hb; subst ha hb; exact Sub.drop _ _ _
                | 3 => simp at ha hb; subst ha hb; exact Sub.drop _ _ _
                | i + 4 => simp at ha) (Sub.refl _)
end Go.Proofs.YtjhnabdcmfjeoaaGreatDoor.Ab
/- The contracts of table's words and names. Own work. -/
set_option linter.unusedSimpArgs false
set_option linter.unusedVariables false
namespace Go.Proofs.YtjhnabdcmfjeoaaGreatDoor.Ab
open Go

/-- The words with a meaning of their own, a blank ahead of and behind each. -/
def wordsL : List UInt8 := [32, 97, 110, 100, 32, 97, 115, 32, 97, 115, 99, 32, 98, 101, 103, 105, 110, 32, 98, 111, 111, 108, 32, 98, 121, 32, 99, 111, 109, 109, 105, 116, 32, 99, 111, 117, 110, 116, 32, 100, 101, 108, 101, 116, 101, 32, 100, 101, 115, 99, 32, 101, 120, 112, 108, 97, 105, 110, 32, 102, 97, 108, 115, 101, 32, 102, 114, 111, 109, 32, 103, 114, 111, 117, 112, 32, 105, 110, 115, 101, 114, 116, 32, 105, 110, 116, 32, 105, 110, 116, 111, 32, 105, 115, 32, 107, 101, 121, 32, 108, 97, 98, 101, 108, 32, 108, 105, 109, 105, 116, 32, 109, 97, 120, 32, 109, 105, 110, 32, 110, 111, 116, 32, 110, 117, 108, 108, 32, 111, 114, 32, 111, 114, 100, 101, 114, 32, 114, 101, 108, 101, 97, 115, 101, 32, 114, 111, 108, 108, 98, 97, 99, 107, 32, 115, 101, 108, 101, 99, 116, 32, 115, 101, 116, 32, 115, 117, 109, 32, 116, 97, 98, 108, 101, 32, 116, 101, 120, 116, 32, 116, 114, 117, 101, 32, 117, 112, 100, 97, 116, 101, 32, 118, 97, 108, 117, 101, 115, 32, 118, 105, 101, 119, 32, 119, 104, 101, 114, 101, 32]
def reservedB (s : List UInt8) : Bool := !decide (s = []) && (!Lib.contains s [32] && Lib.contains wordsL (32 :: (s ++ [32])))

set_option maxRecDepth 20000
theorem reserved_ok (gl : Nat → AV) (m : Int) (hm : GInt gl 1 m) (s : List UInt8) (hs : s.length < 4294967200) :
    PureA Tryz.prog gl 67 [.s (strV s)] (.s (.bool (reservedB s))) := by
  refine calls_of_code (C := ⟨Tryz.prog, gl, 16, []⟩) (fn := Tryz.f67) rfl rfl rfl (by simp) (vc_sound _ _ _ _ ?_)
  simp [Tryz.f67, strV]
  by_cases he : s = []
  · subst he; simp [reservedB]
  · simp [he]
    refine (contains_ok gl m hm s [32] (by omega)).use ?_
    cases hc : Lib.contains s [32] with
    | true => simp [reservedB, hc, he]
    | false =>
      simp [reservedB, hc, he]
      refine ⟨by omega, by omega, ?_⟩
      refine (contains_ok gl m hm wordsL (32 :: (s ++ [32])) (by decide)).use ?_
      simp

def badN (c : UInt8) (i : Nat) : Bool := !(decide (97 ≤ c.toNat) && decide (c.toNat ≤ 122)) && (decide (i = 0) || (!decide (c.toNat = 95) && (decide (c.toNat < 48) || decide (57 < c.toNat))))
def nameR : List UInt8 → Nat → Bool
  | [], _ => true
  | c :: r, i => !badN c i && nameR r (i + 1)
def nameB (s : List UInt8) : Bool := decide (1 ≤ s.length) && (decide (s.length ≤ 32) && (!reservedB s && nameR s 0))

theorem name_ok (gl : Nat → AV) (m : Int) (hm : GInt gl 1 m) (s : List UInt8) :
    PureA Tryz.prog gl 40 [.s (strV s)] (.s (.bool (nameB s))) := by
  refine calls_of_code (C := ⟨Tryz.prog, gl, 51, []⟩) (fn := Tryz.f40) rfl rfl rfl (by simp) (vc_sound _ _ _ _ ?_)
  generalize hR : nameB s = R
  by_cases h1 : s = []
  · subst h1 hR; simp [Tryz.f40, strV, nameB]
  have hl1 : 1 ≤ s.length := by cases s with | nil => exact absurd rfl h1 | cons => simp
  have a1 : ¬ (s.length : Int) < 1 := by omega
  have a2 : (1 : Int) ≤ s.length := by omega
  by_cases h2 : (32 : Int) < s.length
  · have : ¬ s.length ≤ 32 := by omega
    simp [a1, h2, ← hR, nameB, this]
  have hl2 : s.length ≤ 32 := by omega
  simp [a1, h2]
  refine (reserved_ok gl m hm s (by omega)).use ?_
  simp [nameB, hl1, hl2] at hR
  cases hr : reservedB s with
  | true => rw [hr] at hR; simp at hR; subst hR; simp
  | false =>
    rw [hr] at hR
    simp at hR
    simp
    obtain ⟨I, hI⟩ : ∃ I : Nat → Env → AHeap → Prop, I = fun k E H => ∃ (i : Nat), k = s.length - i ∧ i ≤ s.length ∧ E 20 = .s (.int .i64 i) ∧ E 19 = .s (.int .i64 s.length) ∧ E 0 = .s (strV s) ∧ H = [] ∧ nameR (s.drop i) i = R := ⟨_, rfl⟩
    refine W_loopN [] (by decide) I s.length ?_ ?_
    · rw [hI]
      exact ⟨0, rfl, by omega, by simp, by simp, by simp [argE, strV], rfl, by simpa using hR⟩
    · intro k E H hi0
      rw [hI] at hi0
      obtain ⟨i, rfl, hi, h20, h19, h0, rfl, hn⟩ := hi0
      refine vc_sound _ _ _ _ ?_
      cases hd : s.drop i with
      | nil =>
        have : i = s.length := by have := List.drop_eq_nil_iff.1 hd; omega
        subst this
        rw [hd] at hn
        simp only [nameR] at hn
        subst hn
        simp [h20, h19, h0]
      | cons c r =>
        have hlt : i < s.length := by have := congrArg List.length hd; simp at this; omega
        have hg : s[i]? = some c := by rw [← List.head?_drop, hd]; rfl
        have hgi : s[i] = c := (List.getElem?_eq_some_iff.1 hg).2
        have hdr : s.drop (i + 1) = r := by rw [← List.drop_drop, hd]; rfl
        have hc := c.toNat_lt
        rw [hd] at hn
        simp only [nameR] at hn
        have e2 : IntKind.i64.wrap ((i : Int) + 1) = (i : Int) + 1 := wrap_i64_in _ (by omega) (by omega)
        simp [h20, h19, h0, hlt, strV, hgi, e2]
        have hbad : badN c i = true → R = false := fun h => by rw [h] at hn; simpa using hn.symm
        have hgood : badN c i = false → nameR (s.drop (i + 1)) (i + 1) = R := fun h => by rw [h] at hn; rw [hdr]; simpa using hn
        repeat' (first | apply And.intro | intro _)
        all_goals first
          | exact hbad (by simp [badN]; omega)
          | (refine ⟨s.length - (i + 1), by omega, ?_⟩
             rw [hI]
             exact ⟨i + 1, rfl, by omega, by simp, by simp [h19], by simp [h0, strV], rfl, hgood (by simp [badN]; omega)⟩)
end Go.Proofs.YtjhnabdcmfjeoaaGreatDoor.Ab
/- The contracts of table's columns and Check. Own work. -/
set_option linter.unusedSimpArgs false
set_option linter.unusedVariables false
namespace Go.Proofs.YtjhnabdcmfjeoaaGreatDoor.Ab
open Go

set_option maxRecDepth 20000
theorem sameName_ok (gl : Nat → AV) (o c : Col) (H : AHeap) : CallsA Tryz.prog gl 88 [cA o, .rp (cA c).cells] H fun av H' => av = .s (.bool (decide (o.name = c.name))) ∧ H' = H := by
  refine (PureA.use ?_ ⟨rfl, rfl⟩)
  refine PureA.ofSub ?_
  refine calls_of_code (C := ⟨Tryz.prog, gl, 9, []⟩) (fn := Tryz.f88) rfl rfl rfl (by simp) (vc_sound _ _ _ _ ?_)
  simp [Tryz.f88, cA, strV]
  exact Sub.refl _

/-- The first place of a column that p tells. -/
def colIdx (p : Col → Bool) : List Col → Nat → Option Nat
  | [], _ => none
  | c :: r, i => if p c = true then some i else colIdx p r (i + 1)
def idxI : Option Nat → Int
  | some n => n
  | none => -1
theorem colIndexFunc_ok (gl : Nat → AV) (l : List Col) (o : Option (Nat × Own)) (f : FuncId) (ca : List AV) (p : Col → Bool) (hl : l.length ≤ 2 ^ 40) (hf : okFn Tryz.prog f)
    (hp : ∀ c ∈ l, PureA Tryz.prog gl f (cA c :: ca) (.s (.bool (p c)))) :
    PureA Tryz.prog gl 95 [.lst 4 (csA l) o, .fn (.func f) [] ca] (.s (.int .i64 (idxI (colIdx p l 0)))) := by
  refine calls_of_code (C := ⟨Tryz.prog, gl, 19, []⟩) (fn := Tryz.f95) rfl rfl rfl (by simp) (vc_sound _ _ _ _ ?_)
  generalize hR : colIdx p l 0 = R
  simp [Tryz.f95]
  obtain ⟨I, hI⟩ : ∃ I : Nat → Env → AHeap → Prop, I = fun k E H => ∃ (i : Nat), k = l.length - i ∧ i ≤ l.length ∧ E 8 = .s (.int .i64 i) ∧ E 7 = .s (.int .i64 l.length) ∧ E 0 = .lst 4 (csA l) o ∧ E 1 = .fn (.func f) [] ca ∧ H = [] ∧ colIdx p (l.drop i) i = R := ⟨_, rfl⟩
  refine W_loopN [] (by decide) I l.length ?_ ?_
  · rw [hI]
    exact ⟨0, rfl, by omega, by simp, by simp, by simp [argE], by simp [argE], rfl, by simpa using hR⟩
  · intro k E H hi0
    rw [hI] at hi0
    obtain ⟨i, rfl, hi, h8, h7, h0, h1, rfl, hn⟩ := hi0
    refine vc_sound _ _ _ _ ?_
    cases hd : l.drop i with
    | nil =>
      have : i = l.length := by have := List.drop_eq_nil_iff.1 hd; omega
      subst this
      rw [hd] at hn
      simp only [colIdx] at hn
      subst hn
      simp [h8, h7, h0, idxI]
    | cons c r =>
      obtain ⟨hlt, hg, hga, hdr, hm⟩ := csA_get hd
      have hgi := (List.getElem?_eq_some_iff.1 hga).2
      rw [hd] at hn
      simp only [colIdx] at hn
      have e2 : IntKind.i64.wrap ((i : Int) + 1) = (i : Int) + 1 := wrap_i64_in _ (by omega) (by omega)
      simp only [cA] at hgi
      simp [h8, h7, h0, h1, hlt, hgi, hf]
      have hpc := hp c hm
      simp only [cA] at hpc
      refine hpc.use ?_
      simp
      refine ⟨fun h => ?_, fun h => ?_⟩
      · simp [h] at hn
        subst hn
        simp [h8, h7, idxI]
      · simp [h] at hn
        simp [h8, h7, e2]
        refine ⟨l.length - (i + 1), by omega, ?_⟩
        rw [hI]
        exact ⟨i + 1, rfl, by omega, by simp, by simp [h7], by simp [h0], by simp [h1], rfl, by rw [hdr]; exact hn⟩

theorem colIdx_any (p : Col → Bool) : ∀ (l : List Col) (i : Nat), decide (0 ≤ idxI (colIdx p l i)) = l.any p
  | [], i => by simp [colIdx, idxI]
  | c :: r, i => by
    have ih := colIdx_any p r (i + 1)
    by_cases h : p c = true
    · simp [colIdx, h, idxI]
    · simp [colIdx, h] at ih ⊢
      exact ih

theorem colContains_ok (gl : Nat → AV) (l : List Col) (o : Option (Nat × Own)) (f : FuncId) (ca : List AV) (p : Col → Bool) (hl : l.length ≤ 2 ^ 40) (hf : okFn Tryz.prog f)
    (hp : ∀ c ∈ l, PureA Tryz.prog gl f (cA c :: ca) (.s (.bool (p c)))) :
    PureA Tryz.prog gl 87 [.lst 4 (csA l) o, .fn (.func f) [] ca] (.s (.bool (l.any p))) := by
  refine calls_of_code (C := ⟨Tryz.prog, gl, 9, []⟩) (fn := Tryz.f87) rfl rfl rfl (by simp) (vc_sound _ _ _ _ ?_)
  simp [Tryz.f87]
  refine (colIndexFunc_ok gl l o f ca p hl hf hp).use ?_
  simp [colIdx_any]

def colE (c : Col) (ahead : List Col) : Nat :=
  if nameB c.name = false then 30 else if ahead.any (fun o => decide (o.name = c.name)) = true then 9 else if ¬ c.kind = 1 ∧ ¬ c.kind = 2 ∧ ¬ c.kind = 3 then 7 else if c.key = true ∧ c.null = true then 33 else 0

theorem column_ok (gl : Nat → AV) (m : Int) (hm : GInt gl 1 m) (c : Col) (l : List Col) (o : Option (Nat × Own)) (hl : l.length ≤ 2 ^ 40) :
    PureA Tryz.prog gl 70 [cA c, .lst 4 (csA l) o] (errA (colE c l)) := by
  refine calls_of_code (C := ⟨Tryz.prog, gl, 39, []⟩) (fn := Tryz.f70) rfl rfl rfl (by simp) (vc_sound _ _ _ _ ?_)
  generalize hR : colE c l = R
  simp [Tryz.f70, cA]
  refine (name_ok gl m hm c.name).use ?_
  unfold colE at hR
  cases hn : nameB c.name with
  | false => rw [hn] at hR; simp at hR; subst hR; simp [errA_pos]
  | true =>
    rw [hn] at hR
    simp only [Bool.true_eq_false, if_false] at hR
    simp
    refine (colContains_ok gl l o 88 [.rp (cA c).cells] (fun x => decide (x.name = c.name)) hl (by simp) fun x _ => (sameName_ok gl x c []).mono fun av H' h => h).use ?_
    cases ha : l.any (fun o => decide (o.name = c.name)) with
    | true => rw [ha] at hR; simp at hR; subst hR; simp [errA_pos]
    | false =>
      rw [ha] at hR
      simp only [Bool.false_eq_true, if_false] at hR
      simp
      repeat' (first | apply And.intro | intro _)
      all_goals (subst hR; simp_all [errA_pos])

/-- The first error among columns behind others, or how many keys there are. -/
def colsE : List Col → List Col → Nat
  | _, [] => 0
  | ahead, c :: r => if colE c ahead = 0 then colsE (ahead ++ [c]) r else colE c ahead
def keysN (l : List Col) : Nat := (l.filter (·.key)).length
def chkTb (t : Tb) : Nat :=
  if nameB t.name = false then 30 else if t.cols.length = 0 then 1 else if 16 < t.cols.length then 2 else if colsE [] t.cols = 0 then (if keysN t.cols = 0 then 8 else 0) else colsE [] t.cols

theorem keysN_le (l : List Col) : keysN l ≤ l.length := List.length_filter_le ..
theorem csA_take (l : List Col) (n : Nat) : (csA l).take n = csA (l.take n) := by simp [csA, List.map_take]

theorem tbCheck_ok (gl : Nat → AV) (m : Int) (hm : GInt gl 1 m) (t : Tb) : PureA Tryz.prog gl 43 [tA t] (errA (chkTb t)) := by
  refine CallsA.letgo ?_
  refine calls_of_code (C := ⟨Tryz.prog, gl, 50, []⟩) (fn := Tryz.f43) rfl rfl rfl (by simp) (vc_sound _ _ _ _ ?_)
  generalize hR : chkTb t = R
  simp [Tryz.f43, tA]
  refine (name_ok gl m hm t.name).use ?_
  unfold chkTb at hR
  cases hn : nameB t.name with
  | false => rw [hn] at hR; simp at hR; subst hR; simp [errA_pos]
  | true =>
    rw [hn] at hR
    simp only [Bool.true_eq_false, if_false] at hR
    simp
    refine ⟨fun h0 => ?_, fun h0 => ⟨fun h16 => ?_, fun h16 => ?_⟩⟩
    · rw [if_pos (by simp [h0])] at hR; subst hR; simp [errA_pos]
    · have h0' : ¬ t.cols.length = 0 := by simpa using h0
      rw [if_neg h0', if_pos (by omega)] at hR; subst hR; simp [errA_pos]
    · have h0' : ¬ t.cols.length = 0 := by simpa using h0
      rw [if_neg h0', if_neg (by omega)] at hR
      obtain ⟨I, hI⟩ : ∃ I : Nat → Env → AHeap → Prop, I = fun k E H => ∃ (i : Nat), k = t.cols.length - i ∧ i ≤ t.cols.length ∧ E 28 = .s (.int .i64 i) ∧ E 27 = .s (.int .i64 t.cols.length) ∧ E 26 = .lst 4 (csA t.cols) none ∧
        E 1 = .rp [.s (strV t.name), .lst 4 (csA t.cols) none] ∧ E 3 = .s (.int .i64 (keysN (t.cols.take i))) ∧ H = [] ∧ colsE (t.cols.take i) (t.cols.drop i) = colsE [] t.cols := ⟨_, rfl⟩
      refine W_loopN [] (by decide) I t.cols.length ?_ ?_
      · rw [hI]
        exact ⟨0, rfl, by omega, by simp, by simp, by simp, by simp [strV], by simp [keysN], rfl, by simp⟩
      · intro k E H hi0
        rw [hI] at hi0
        obtain ⟨i, rfl, hi, h28, h27, h26, h1, h3, rfl, hc⟩ := hi0
        refine vc_sound _ _ _ _ ?_
        cases hd : t.cols.drop i with
        | nil =>
          have : i = t.cols.length := by have := List.drop_eq_nil_iff.1 hd; omega
          subst this
          rw [hd] at hc
          simp only [colsE] at hc
          rw [← hc] at hR
          simp at hR
          rw [List.take_length] at h3
          simp [h28, h27, h3]
          refine ⟨fun h => ?_, fun h => ?_⟩ <;> simp [h] at hR <;> subst hR <;> simp [errA_pos]
        | cons c r =>
          obtain ⟨hlt, hg, hga, hdr, hm'⟩ := csA_get hd
          have hgi := (List.getElem?_eq_some_iff.1 hga).2
          rw [hd] at hc
          simp only [colsE] at hc
          have e2 : IntKind.i64.wrap ((i : Int) + 1) = (i : Int) + 1 := wrap_i64_in _ (by omega) (by omega)
          simp only [cA, strV] at hgi
          simp [h28, h27, h26, h1, h3, hlt, hgi]
          intro b5
          refine W_draw (.val 0 <| .val 1 <| .val 2 <| .val 3 <| .val 4 <| .one 5 [2] <| .val 6 .done) hmix (by kernel_rfl) (by kernel_rfl) ?_
          simp [h28, h27, h26, h1, h3, hlt]
          refine ⟨by omega, ?_⟩
          have hk := column_ok gl m hm c (t.cols.take i) none (by simp; omega)
          simp only [cA, strV, ← csA_take] at hk
          refine hk.use ?_
          by_cases he : colE c (t.cols.take i) = 0
          · rw [if_pos he, ← hdr] at hc
            have htk : t.cols.take (i + 1) = t.cols.take i ++ [c] := by rw [List.take_add_one, hg]; rfl
            rw [← htk] at hc
            have hkn := keysN_le (t.cols.take i)
            have hkl : (t.cols.take i).length ≤ t.cols.length := by simp; omega
            have e3 : IntKind.i64.wrap ((keysN (t.cols.take i) : Int) + 1) = (keysN (t.cols.take i) : Int) + 1 := wrap_i64_in _ (by omega) (by omega)
            simp [h28, h27, h26, h1, h3, pureG, pureO, opVal, he, e2, e3]
            refine ⟨fun hk => ⟨t.cols.length - (i + 1), by omega, ?_⟩, fun hk => ⟨t.cols.length - (i + 1), by omega, ?_⟩⟩
            · rw [hI]
              exact ⟨i + 1, rfl, by omega, by simp, by simp [h27], by simp [h26], by simp [h1], by rw [htk]; simp [keysN, hk], rfl, hc⟩
            · rw [hI]
              exact ⟨i + 1, rfl, by omega, by simp, by simp [h27], by simp [h26], by simp [h1], by rw [htk]; simp [keysN, hk, h3], rfl, hc⟩
          · rw [if_neg he] at hc
            rw [← hc, if_neg he] at hR
            subst hR
            simp [h28, h27, h26, h1, h3, pureG, pureO, opVal, he]
end Go.Proofs.YtjhnabdcmfjeoaaGreatDoor.Ab
/- The contract of table's New. Own work. -/
set_option linter.unusedSimpArgs false
set_option linter.unusedVariables false
namespace Go.Proofs.YtjhnabdcmfjeoaaGreatDoor.Ab
open Go

def firstE : List Tb → Nat
  | [] => 0
  | t :: r => if chkTb t = 0 then firstE r else chkTb t
def dupE : List Tb → List Tb → Nat
  | _, [] => 0
  | seen, t :: r => if (tbIdx seen t.name 0).isSome = true then 9 else dupE (seen ++ [t]) r
def newE (l : List Tb) : Nat := if 32 < l.length then 2 else if firstE l = 0 then dupE [] l else firstE l
def newR (l : List Tb) : AV := .tup [if newE l = 0 then catA l else .s (.pointer none), errA (newE l)]

theorem tsA_get {l : List Tb} {i : Nat} {t : Tb} {r : List Tb} (h : l.drop i = t :: r) : i < l.length ∧ l[i]? = some t ∧ (tsA l)[i]? = some (tA t) ∧ l.drop (i + 1) = r ∧ t ∈ l := by
  have hlt : i < l.length := by have := congrArg List.length h; simp at this; omega
  have hg : l[i]? = some t := by rw [← List.head?_drop, h]; rfl
  exact ⟨hlt, hg, by simp [tsA, hg], by rw [← List.drop_drop, h]; rfl, List.mem_of_getElem? hg⟩

theorem mapE_snoc : ∀ (l : List Tb) (t : Tb) (i : Nat), mapE (l ++ [t]) i = mapE l i ++ [(strV t.name, .s (.int .i64 ((i + l.length : Nat) : Int)))]
  | [], t, i => by simp [mapE]
  | x :: l, t, i => by
    simp only [List.cons_append, mapE, mapE_snoc l t (i + 1), List.length_cons]
    rw [show i + 1 + l.length = i + (l.length + 1) by omega]

theorem firstE_all : ∀ (l : List Tb), firstE l = 0 → ∀ t ∈ l, chkTb t = 0
  | [], _, t, h => by simp at h
  | x :: l, h, t, ht => by
    simp only [firstE] at h
    split at h
    · rename_i hx
      rcases List.mem_cons.1 ht with rfl | ht
      · exact hx
      · exact firstE_all l h t ht
    · rename_i hx; exact absurd h hx
theorem chkTb_cols {t : Tb} (h : chkTb t = 0) : t.cols.length ≤ 16 := by
  unfold chkTb at h
  split at h
  · cases h
  · split at h
    · cases h
    · split at h
      · cases h
      · omega

/-- What New hands back, as yet owned. -/
def RetNew (l : List Tb) : AV → AHeap → Prop := fun av H => (newE l ≠ 0 ∧ av = .tup [.s (.pointer none), errA (newE l)]) ∨
  (newE l = 0 ∧ ∃ b mb o, av = .tup [.ptr 18 b 0, .s .nilIface] ∧ pickL [16, 18] H = [(16, .mp mb (mapE l 0)), (18, .box b 105 [.lst 2 (tsA l) o, .s (.map (some mb))])])

theorem RetNew.view {P : Program} {gl : Nat → AV} {f : FuncId} {args : List AV} {l : List Tb} (h : CallsA P gl f args [] (RetNew l)) : PureA P gl f args (newR l) := by
  refine h.view ?_
  rintro im w B av H' v hok hr (⟨he, rfl⟩ | ⟨he, b, mb, o, rfl, hp⟩)
  · exact ⟨im, _, [], hok.sub (List.nil_sublist _), hr, by simp [newR, he], rfl⟩
  · have hok0 := hok.pick [16, 18] (by decide)
    rw [hp] at hok0
    obtain ⟨im1, hle1, hok1, hm⟩ := hok0.freezeMap
    obtain ⟨im2, hle2, hok2, hb⟩ := hok1.freezeBox (cs' := [.lst 2 (tsA l) none, .mpr (mapE l 0)]) (by simp) (fun im' i c c' v hle hc hc' hv => by
      match i with
      | 0 => simp at hc hc'; subst hc hc'; exact hv.drop
      | 1 => simp at hc hc'; subst hc hc'; rw [sInv hv]; exact hm.mono hle
      | i + 2 => simp at hc)
    refine ⟨im2, newR l, [], hok2.sub (List.nil_sublist _), ?_, rfl, rfl⟩
    simp only [newR, he, if_true, errA_zero]
    cases hr with
    | tup _ vs hl hv =>
      refine .tup _ _ hl fun i c v hc hvi => ?_
      match i with
      | 0 =>
        have := hv 0 _ v rfl hvi
        simp at hc; subst hc
        cases this
        exact hb
      | 1 =>
        have := hv 1 _ v rfl hvi
        simp at hc; subst hc
        rw [sInv this]; exact .s _
      | i + 2 => simp at hc

set_option maxRecDepth 20000
theorem tbNew_ok (gl : Nat → AV) (m : Int) (hm : GInt gl 1 m) (l : List Tb) (o : Option (Nat × Own)) : PureA Tryz.prog gl 19 [.lst 2 (tsA l) o] (newR l) := by
  refine RetNew.view ?_
  refine calls_of_code (C := ⟨Tryz.prog, gl, 70, [18]⟩) (fn := Tryz.f19) rfl rfl rfl (by simp) (vc_sound _ _ _ _ ?_)
  generalize hR : RetNew l = R
  by_cases h32 : (32 : Int) < l.length
  · simp [Tryz.f19, h32]
    have h : newE l = 2 := by unfold newE; rw [if_pos (by omega)]
    subst hR
    exact .inl ⟨by rw [h]; decide, by rw [h]; simp [errA_pos]⟩
  · simp [Tryz.f19, h32]
    intro b16 b18
    have hnE : newE l = if firstE l = 0 then dupE [] l else firstE l := by unfold newE; rw [if_neg (by omega)]
    obtain ⟨I, hI⟩ : ∃ I : Nat → Env → AHeap → Prop, I = fun k E H => ∃ (i : Nat), k = l.length - i ∧ i ≤ l.length ∧ E 21 = .s (.int .i64 i) ∧ E 20 = .s (.int .i64 l.length) ∧ E 19 = .lst 2 (tsA l) o ∧ E 0 = .lst 2 (tsA l) o ∧ E 4 = .ptr 18 b18 0 ∧
      H = [(16, .mp b16 []), (18, .box b18 105 [.s (.slice none 0 0), .s (.map (some b16))])] ∧ firstE (l.drop i) = firstE l := ⟨_, rfl⟩
    refine W_loopN [16, 18] (by decide) I l.length ?_ ?_
    · rw [hI]
      exact ⟨0, rfl, by omega, by simp, by simp, by simp [argE], by simp [argE], by simp, by simp, by simp⟩
    · intro k E H hi0
      rw [hI] at hi0
      obtain ⟨i, rfl, hi, h21, h20, h19, h0, h4, rfl, hc⟩ := hi0
      refine vc_sound _ _ _ _ ?_
      cases hd : l.drop i with
      | nil =>
        have : i = l.length := by have := List.drop_eq_nil_iff.1 hd; omega
        subst this
        rw [hd] at hc
        simp only [firstE] at hc
        have hfirst := hc.symm
        rw [← hc] at hnE
        simp at hnE
        simp [h21, h20, h19, h0, h4]
        refine W_pick [18, 16] (by decide) ?_
        simp
        refine W_nilCell (k := 0) (U := 59) (sz := 2) (L := 65) rfl ?_
        obtain ⟨J, hJ⟩ : ∃ J : Nat → Env → AHeap → Prop, J = fun k E H => ∃ (i : Nat) (q : Own), k = l.length - i ∧ i ≤ l.length ∧ E 33 = .s (.int .i64 i) ∧ E 32 = .s (.int .i64 l.length) ∧ E 31 = .lst 2 (tsA l) o ∧ E 4 = .ptr 18 b18 0 ∧
          H = [(65, .own 59 2 i q), (18, .box b18 105 [.lst 2 (tsA (l.take i)) (some (65, q)), .s (.map (some b16))]), (16, .mp b16 (mapE (l.take i) 0))] ∧ dupE (l.take i) (l.drop i) = newE l := ⟨_, rfl⟩
        refine W_loopN [65, 18, 16] (by decide) J l.length ?_ ?_
        · rw [hJ]
          exact ⟨0, .nil, rfl, by omega, by simp, by simp, by simp [h0], by simp [h4], by simp [mapE, tsA], by simp [hnE]⟩
        · intro k E H hi0
          rw [hJ] at hi0
          obtain ⟨i, q, rfl, hi, h33, h32', h31, h4, rfl, hc⟩ := hi0
          refine vc_sound _ _ _ _ ?_
          cases hd : l.drop i with
          | nil =>
            have : i = l.length := by have := List.drop_eq_nil_iff.1 hd; omega
            subst this
            rw [hd] at hc
            simp only [dupE] at hc
            simp [h33, h32', h31, h4]
            subst hR
            exact .inr ⟨hc.symm, b18, b16, _, rfl, by simp; rfl⟩
          | cons t r =>
            obtain ⟨hlt, hg, hga, hdr, hm'⟩ := tsA_get hd
            have hgi := (List.getElem?_eq_some_iff.1 hga).2
            rw [hd] at hc
            simp only [dupE] at hc
            have e2 : IntKind.i64.wrap ((i : Int) + 1) = (i : Int) + 1 := wrap_i64_in _ (by omega) (by omega)
            simp only [tA, strV] at hgi
            simp [h33, h32', h31, h4, hlt, hgi]
            intro b9
            refine W_steps [(0, false), (1, false), (2, false), (3, false), (4, false), (5, false), (6, true), (7, false), (8, false), (9, false), (10, false), (11, false)] hmix (by kernel_rfl) (by kernel_rfl) (by decide) ?_
            simp [h33, h32', h31, h4]
            rw [lookS_mapE]
            cases hix : tbIdx (l.take i) t.name 0 with
            | some n =>
              rw [hix] at hc
              simp at hc
              simp [h33, h32', h31, h4]
              subst hR
              exact .inl ⟨by rw [← hc]; decide, by rw [← hc]; simp [errA_pos]⟩
            | none =>
              rw [hix] at hc
              simp at hc
              simp [h33, h32', h31, h4]
              refine W_steps [(0, false), (1, false), (2, false), (3, false), (4, false), (5, false), (6, false), (7, true)] hmix (by kernel_rfl) (by kernel_rfl) (by decide) ?_
              simp [h33, h32', h31, h4]
              rw [lookS_mapE, hix]
              simp [h33, h32', h31, h4]
              refine W_draw (.val 0 <| .val 1 <| .val 2 <| .val 3 <| .val 4 <| .val 5 <| .one 6 [4] <| .val 7 <| .one 8 [5] <| .val 9 <| .val 10 <| .one 11 [] .done) hmix (by kernel_rfl) (by kernel_rfl) ?_
              simp [h33, h32', h31, h4]
              have hcl : t.cols.length ≤ 2 ^ 40 := by have := chkTb_cols (firstE_all l hfirst t hm'); omega
              have hk := own_ok gl t hcl
              simp only [tA, strV] at hk
              refine hk.use ?_
              simp [h33, h32', h31, h4, pureG, pureO, opVal]
              have htk : l.take (i + 1) = l.take i ++ [t] := by rw [List.take_add_one, hg]; rfl
              have htl : (l.take i).length = i := by rw [List.length_take]; omega
              have hmn : min i l.length = i := by omega
              refine ⟨by decide, by omega, by omega, by omega, fun q' => ⟨l.length - (i + 1), by omega, ?_⟩⟩
              rw [hJ]
              refine ⟨i + 1, q', rfl, by omega, by simp [e2], by simp [h32'], by simp [h31], by simp [h4], ?_, by rw [htk, hdr]; exact hc⟩
              rw [htk, mapE_snoc]
              simp [hmn, tsA, tA, strV]
      | cons t r =>
        obtain ⟨hlt, hg, hga, hdr, hm'⟩ := tsA_get hd
        have hgi := (List.getElem?_eq_some_iff.1 hga).2
        rw [hd] at hc
        simp only [firstE] at hc
        have e2 : IntKind.i64.wrap ((i : Int) + 1) = (i : Int) + 1 := wrap_i64_in _ (by omega) (by omega)
        simp only [tA, strV] at hgi
        simp [h21, h20, h19, h0, h4, hlt, hgi]
        intro b6
        have hk := tbCheck_ok gl m hm t
        simp only [tA, strV] at hk
        refine hk.use ?_
        by_cases he : chkTb t = 0
        · rw [if_pos he] at hc
          simp [h21, h20, h19, h0, h4, he, e2]
          refine ⟨l.length - (i + 1), by omega, ?_⟩
          rw [hI]
          exact ⟨i + 1, rfl, by omega, by simp, by simp [h20], by simp [h19], by simp [h0], by simp [h4], by simp, by rw [hdr]; exact hc⟩
        · rw [if_neg he] at hc
          have h : newE l = chkTb t := by rw [hnE, ← hc, if_neg he]
          simp [h21, h20, h19, h0, h4, he]
          subst hR
          exact .inl ⟨by rw [h]; exact he, by rw [h]⟩
end Go.Proofs.YtjhnabdcmfjeoaaGreatDoor.Ab
