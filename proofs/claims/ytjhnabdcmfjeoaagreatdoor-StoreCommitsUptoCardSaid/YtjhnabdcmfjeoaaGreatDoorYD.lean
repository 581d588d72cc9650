/- Regions that draw their order: one walk suffices where a plan is shown and checked. Own work; a plain theory over any program. -/
import Derived.Test.YtjhnabdcmfjeoaaGreatDoorYC
set_option linter.unusedVariables false
set_option linter.unusedSimpArgs false
namespace Go.Proofs.YtjhnabdcmfjeoaaGreatDoor.Ab
open Go

def opnds : Op → List Operand
  | .move x | .assign x | .box _ x | .load _ x | .nilCheck x | .unOp _ _ x | .convert _ _ x | .makeInterface _ x | .fieldAddr _ x _ | .extract x _ => [x]
  | .pick c a b => [c, a, b]
  | .build _ ps | .buildSlice _ _ ps => ps.toList.map (·.2)
  | .store _ a v | .binOp _ _ a v _ | .indexAddr _ a v | .index _ a v => [a, v]
  | .makeFunc _ fi ca => fi.toList ++ ca.toList
  | .slice _ x lo hi mx => [x] ++ lo.toList ++ hi.toList ++ mx.toList
  | .call c => (match c.callee with | .value f => [f] | _ => []) ++ c.args.toList
  | .makeMap _ r => r.toList
  | .lookup _ x k _ => [x, k]
  | .mapUpdate _ m k x => [m, k, x]
  | .range _ x | .next x _ => [x]
  | .makeSlice _ l c => [l, c]
  | _ => []

def slots (l : List Operand) : List Nat := l.filterMap fun | .tmp t => some t | _ => none

def slotOf (ops : Array Oper) (i : Nat) : Option Nat := (ops[i]?).bind (·.dst)

def guardSlot (ops : Array Oper) (o : Oper) : List Nat := match o.guard with | some (j, _) => (slotOf ops j).toList | none => []

/-- The slots that an operation reads. -/
def reads (ops : Array Oper) (o : Oper) : List Nat := slots (opnds o.op) ++ guardSlot ops o

def deps (o : Oper) : List Nat := (o.after.toList.filter fun e => Region.binds .any e).map (·.on)

def isLoad : Op → Bool
  | .load _ _ => true
  | _ => false

/-- An operation that changes nothing that is owned. -/
def isPure (mu : List Nat) (o : Oper) : Bool := match o.dst with
  | none => false
  | some d => match o.op with
    | .binOp _ _ _ y _ => !isNilL y
    | .move _ | .assign _ => !mu.contains d
    | .pick .. | .load .. | .nilCheck _ | .unOp .. | .convert .. | .makeInterface .. | .makeFunc .. | .slice .. | .fieldAddr .. | .indexAddr .. | .index .. | .extract .. | .build .. => true
    | .box .. | .buildSlice .. => !mu.contains d
    | .call c => match c.callee with | .builtin b => !isAppend b | _ => false
    | _ => false

def pureO (C : Cx) (o : Oper) (E : Env) (H : AHeap) : Option AV := match o.op with
  | .box _ x => if (evA C.gl E x).ones = true then some (.rp (evA C.gl E x).cells) else none
  | .buildSlice t n ps => match bslA C.P t n (ps.toList.map fun x => (x.1, evA C.gl E x.2)) with | some (e, es) => if n ≤ maxLen then some (.lst (tyI C.P e).size es none) else none | none => none
  | .convert s d x => (opVal C.P C.gl E H (.convert s d x)).or (strToBytes C.P s d (evA C.gl E x))
  | op => opVal C.P C.gl E H op

def pureG (C : Cx) (ops : Array Oper) (o : Oper) (E : Env) (H : AHeap) : Option AV := match o.guard with
  | none => pureO C o E H
  | some (j, want) => match slotOf ops j with
    | some g => match E g with
      | .s (.bool x) => if x = want then pureO C o E H else some undefA
      | .s (.tuple _) => some undefA
      | _ => none
    | none => none

inductive Plan where
  | done
  | val (i : Nat) (rest : Plan)
  | one (i : Nat) (chk : List Nat) (rest : Plan)
  | two (i : Nat) (ci : List Nat) (ri : Plan) (j : Nat) (cj : List Nat) (rj : Plan)

/-- The loads that may still be done behind a step read what they read before it. -/
def recheck (C : Cx) (ops : Array Oper) (l : List Nat) (E : Env) (H : AHeap) : Prop := match l with
  | [] => True
  | i :: l => (match ops[i]? with | some o => (match o.dst with | some d => pureG C ops o E H = some (E d) | none => False) | none => False) ∧ recheck C ops l E H

/-- What a region that draws asks, along a plan. -/
def vcP (C : Cx) (ops : Array Oper) : Plan → Env → AHeap → (Env → AHeap → Prop) → Prop
  | .done, E, H, K => K E H
  | .val i rest, E, H, K => opsVC C ops ((ops[i]?).toList) E H fun E' H' => vcP C ops rest E' H' K
  | .one i chk rest, E, H, K => opsVC C ops ((ops[i]?).toList) E H fun E' H' => recheck C ops chk E' H' ∧ vcP C ops rest E' H' K
  | .two i ci ri j cj rj, E, H, K => (opsVC C ops ((ops[i]?).toList) E H fun E' H' => recheck C ops ci E' H' ∧ vcP C ops ri E' H' K) ∧ (opsVC C ops ((ops[j]?).toList) E H fun E' H' => recheck C ops cj E' H' ∧ vcP C ops rj E' H' K)

def readyV (ops : Array Oper) (V : List Nat) : List Nat := (List.range ops.size).filter fun i => !V.contains i && ((ops[i]?).map fun o => (deps o).all V.contains).getD false

/-- The loads among V that are not ahead of i. -/
def looseLoads (ops : Array Oper) (V : List Nat) (i : Nat) : List Nat := V.filter fun k => ((ops[k]?).map fun o => isLoad o.op).getD false && !((ops[i]?).map fun o => (deps o).contains k).getD false

def planOk (ops : Array Oper) (mu : List Nat) : Plan → List Nat → Bool
  | .done, V => (List.range ops.size).all V.contains
  | .val i rest, V => (readyV ops V).contains i && ((ops[i]?).map (isPure mu)).getD false && planOk ops mu rest (i :: V)
  | .one i chk rest, V => readyV ops V == [i] && !((ops[i]?).map (isPure mu)).getD true && (looseLoads ops V i).all chk.contains && planOk ops mu rest (i :: V)
  | .two i ci ri j cj rj, V => readyV ops V == [i, j] && !((ops[i]?).map (isPure mu)).getD true && !((ops[j]?).map (isPure mu)).getD true && (looseLoads ops V i).all ci.contains && (looseLoads ops V j).all cj.contains &&
      planOk ops mu ri (i :: V) && planOk ops mu rj (j :: V)

def opsOk (ops : Array Oper) (mu : List Nat) : Bool := (List.range ops.size).all fun i => match ops[i]? with
  | none => false
  | some o => (deps o).all (· < i) && (match o.dst with
    | none => true
    | some d => !(reads ops o).contains d && (List.range ops.size).all fun k => k == i || (match ops[k]? with
      | none => false
      | some p => !(p.dst == some d) && (!(reads ops p).contains d || (deps p).contains i || (!isPure mu o && (deps o).contains k))))

section
variable {C : Cx}

theorem ev_ext {E E' : Env} {l : List Operand} (h : ∀ t ∈ slots l, E t = E' t) : ∀ x ∈ l, evA C.gl E x = evA C.gl E' x := by
  intro x hx
  cases x with
  | tmp t => exact h t (List.mem_filterMap.2 ⟨_, hx, rfl⟩)
  | _ => rfl

theorem map_ext {E E' : Env} {l : List Operand} (h : ∀ x ∈ l, evA C.gl E x = evA C.gl E' x) : l.map (evA C.gl E) = l.map (evA C.gl E') := List.map_congr_left h

theorem pmap_ext {E E' : Env} {l : List (Nat × Operand)} (h : ∀ x ∈ l.map (·.2), evA C.gl E x = evA C.gl E' x) : (l.map fun x => (x.1, evA C.gl E x.2)) = l.map fun x => (x.1, evA C.gl E' x.2) :=
  List.map_congr_left fun x hx => by rw [h x.2 (List.mem_map.2 ⟨x, hx, rfl⟩)]

theorem omap_ext {E E' : Env} {l : Option Operand} (h : ∀ x ∈ l.toList, evA C.gl E x = evA C.gl E' x) : l.map (evA C.gl E) = l.map (evA C.gl E') := by
  cases l with
  | none => rfl
  | some x => simp [h x (by simp)]

theorem opVal_ext {E E' : Env} {H : AHeap} {op : Op} (h : ∀ x ∈ opnds op, evA C.gl E x = evA C.gl E' x) : opVal C.P C.gl E H op = opVal C.P C.gl E' H op := by
  cases op with
  | move x => simp [opVal, h x (by simp [opnds])]
  | assign x => simp [opVal, h x (by simp [opnds])]
  | pick c a b => simp [opVal, h c (by simp [opnds]), h a (by simp [opnds]), h b (by simp [opnds])]
  | load t p => simp [opVal, h p (by simp [opnds])]
  | nilCheck x => simp [opVal, h x (by simp [opnds])]
  | binOp op t x y yt => simp [opVal, h x (by simp [opnds]), h y (by simp [opnds])]
  | unOp op t x => simp [opVal, h x (by simp [opnds])]
  | convert s d x => simp [opVal, h x (by simp [opnds])]
  | makeInterface t x => simp [opVal, h x (by simp [opnds])]
  | makeFunc f fi ca =>
    simp only [opVal]
    rw [map_ext (l := fi.toList) fun x hx => h x (by simp only [opnds, List.mem_append]; exact .inl hx), map_ext (l := ca.toList) fun x hx => h x (by simp only [opnds, List.mem_append]; exact .inr hx)]
  | slice t x lo hi mx =>
    simp only [opVal]
    rw [h x (by simp [opnds]), omap_ext (l := lo) fun x hx => h x (by simp only [opnds, List.mem_append]; exact .inl (.inl (.inr hx))), omap_ext (l := hi) fun x hx => h x (by simp only [opnds, List.mem_append]; exact .inl (.inr hx)),
      omap_ext (l := mx) fun x hx => h x (by simp only [opnds, List.mem_append]; exact .inr hx)]
  | fieldAddr s x f => simp [opVal, h x (by simp [opnds])]
  | indexAddr t x i => simp [opVal, h x (by simp [opnds]), h i (by simp [opnds])]
  | index t x i => simp [opVal, h x (by simp [opnds]), h i (by simp [opnds])]
  | extract x i => simp [opVal, h x (by simp [opnds])]
  | build t ps =>
    have := pmap_ext (C := C) (E := E) (E' := E') (l := ps.toList) (by simpa [opnds] using h)
    simp only [opVal]
    rw [this]
  | call c =>
    simp only [opVal, callVal]
    split
    · rw [map_ext (l := c.args.toList) fun x hx => h x (by simp only [opnds, List.mem_append]; exact .inr hx)]
    · rfl
  | _ => rfl

theorem opVal_heap {E : Env} {H H' : AHeap} {op : Op} (h : isLoad op = false) : opVal C.P C.gl E H op = opVal C.P C.gl E H' op := by
  cases op <;> first | rfl | (simp [isLoad] at h)

theorem pureO_ext {E E' : Env} {H : AHeap} {o : Oper} (h : ∀ x ∈ opnds o.op, evA C.gl E x = evA C.gl E' x) : pureO C o E H = pureO C o E' H := by
  obtain ⟨dst, op, ty, pos, after, guard⟩ := o
  cases op with
  | box t x => simp only [pureO]; rw [h x (by simp [opnds])]
  | buildSlice t n ps =>
    have := pmap_ext (C := C) (E := E) (E' := E') (l := ps.toList) (by simpa [opnds] using h)
    simp only [pureO]; rw [this]
  | convert s d x => simp only [pureO]; rw [opVal_ext (C := C) (op := .convert s d x) h, h x (by simp [opnds])]
  | _ => exact opVal_ext (C := C) (H := H) h

theorem pureO_heap {E : Env} {H H' : AHeap} {o : Oper} (h : isLoad o.op = false) : pureO C o E H = pureO C o E H' := by
  obtain ⟨dst, op, ty, pos, after, guard⟩ := o
  cases op <;> first | rfl | exact opVal_heap (C := C) h | (simp only [pureO]; rw [opVal_heap (C := C) h])

theorem pureG_ext {ops : Array Oper} {E E' : Env} {H : AHeap} {o : Oper} (h : ∀ t ∈ reads ops o, E t = E' t) : pureG C ops o E H = pureG C ops o E' H := by
  have h1 := pureO_ext (C := C) (H := H) (ev_ext (C := C) (E := E) (E' := E') fun t ht => h t (List.mem_append_left _ ht))
  unfold pureG
  rw [h1]
  cases hg : o.guard with
  | none => rfl
  | some jw =>
    obtain ⟨j, want⟩ := jw
    simp only
    cases hs : slotOf ops j with
    | none => rfl
    | some g =>
      have : E g = E' g := h g (List.mem_append_right _ (by simp [guardSlot, hg, hs]))
      simp only
      rw [this]

theorem pureG_heap {ops : Array Oper} {E : Env} {H H' : AHeap} {o : Oper} (h : isLoad o.op = false) : pureG C ops o E H = pureG C ops o E H' := by
  unfold pureG
  rw [pureO_heap (C := C) (H := H) (H' := H') h]

theorem opVC_pure {o : Oper} {d : Nat} {E : Env} {H : AHeap} {K : Env → AHeap → Prop} (hd : o.dst = some d) (hp : isPure C.mu o = true) (h : opVC C o E H K) : ∃ v, pureO C o E H = some v ∧ d < C.N ∧ K (upd E d v) H := by
  obtain ⟨dst, op, ty, pos, after, guard⟩ := o
  simp only at hd
  subst hd
  cases op with
  | box t x =>
    obtain ⟨h1, h2, h3⟩ := h
    simp only [isPure, Bool.not_eq_true'] at hp
    rw [hp] at h3
    exact ⟨_, by simp only [pureO]; rw [if_pos h2], h1, by simpa using h3⟩
  | buildSlice t n ps =>
    simp only [isPure, Bool.not_eq_true'] at hp
    simp only [opVC] at h
    split at h
    · rename_i d' e es hd' hb
      cases hd'
      obtain ⟨h1, h2, h3⟩ := h
      rw [hp] at h3
      refine ⟨.lst (tyI C.P e).size es none, ?_, h1, by simpa using h3⟩
      simp only [pureO]
      rw [hb]
      simp only
      rw [if_pos h2]
    · exact h.elim
  | convert s t x =>
    simp only [opVC] at h
    split at h
    · rename_i k v hk hv; cases hk; exact ⟨v, by simp only [pureO]; rw [hv]; rfl, h.1, h.2⟩
    · rename_i k v hk hv hs; cases hk; exact ⟨v, by simp only [pureO]; rw [hv, hs]; rfl, h.1, h.2⟩
    · exact h.elim
  | call c =>
    simp only [isPure] at hp
    simp only [opVC, callVC] at h
    cases hc : c.callee with
    | builtin b =>
      rw [hc] at h hp
      simp only at h hp
      have hb : isAppend b = false := by simpa using hp
      rw [hb] at h
      simp only [Bool.false_eq_true, if_false] at h
      split at h
      · rename_i d' v hd' hv; cases hd'; exact ⟨v, by simp only [pureO, opVal, callVal, hc]; exact hv, h.1, h.2⟩
      · exact h.elim
    | value f => rw [hc] at hp; simp at hp
    | invoke r m => rw [hc] at hp; simp at hp
  | alloc t => simp [isPure] at hp
  | store t p x => simp [isPure] at hp
  | binOp op t x y yt =>
    simp only [isPure, Bool.not_eq_true'] at hp
    simp only [opVC] at h
    rw [hp] at h
    simp only [Bool.false_eq_true, if_false] at h
    split at h
    · rename_i v hv; exact ⟨v, hv, h.1, h.2⟩
    · exact h.elim
  | _ =>
    first
    | (simp [isPure] at hp; done)
    | (simp only [opVC] at h
       split at h
       · rename_i d' v hd' hv; cases hd'; exact ⟨v, hv, h.1, h.2⟩
       · exact h.elim)

theorem lay_op {B : Base} {im : Im} {E : Env} {H : AHeap} {a : Act} {w : World} {o : Oper} {v : AV} {x : Sem Value} (h : St C B im E H a w) (hx : execOp a.eval o = (do pure (.value (← x)))) (hl : Lays C.P im w x v) :
    ∃ u im' w', (execOp a.eval o).run C.P w = .ok (.value u) w' ∧ Ok (here im w []) im' w' [] ∧ Rep im' v u := by
  obtain ⟨u, im', w', hr, hok, hu⟩ := hl
  exact ⟨u, im', w', by rw [hx]; simp [hr], hok, hu⟩

theorem val_op {B : Base} {im : Im} {E : Env} {H : AHeap} {a : Act} {w : World} {o : Oper} {v : AV} (h : St C B im E H a w) (hv : opVal C.P C.gl E H o.op = some v) :
    ∃ u im' w', (execOp a.eval o).run C.P w = .ok (.value u) w' ∧ Ok (here im w []) im' w' [] ∧ Rep im' v u := by
  obtain ⟨u, hr, hu⟩ := opVal_sound hv h.env h.glo h.ok.imr h.ok.own
  exact ⟨u, im, w, hr, ⟨rfl, rfl, rfl, Nat.le_refl _, fun _ _ _ => ⟨rfl, fun _ => rfl, rfl⟩, Le.refl _, h.ok.imr, by simp, by simp [keys], by simp [keys]⟩, hu⟩

theorem bsl_pure {B : Base} {im : Im} {E : Env} {H : AHeap} {a : Act} {w : World} {t : TypeId} {n : Nat} {ps : Array (Nat × Operand)} {e : TypeId} {es : List AV} (h : St C B im E H a w)
    (hb : bslA C.P t n (ps.toList.map fun x => (x.1, evA C.gl E x.2)) = some (e, es)) (hm : n ≤ maxLen) : Lays C.P im w (Instr.buildSlice t n (ps.map fun (i, x) => (i, a.eval x))) (.lst (tyI C.P e).size es none) := by
  have hbs := bsl_lays (P := C.P) (w := w) h.ok.imr hb (ps := ps.map fun (i, x) => (i, a.eval x)) (by simp) (fun i f av f' v hi hv => by
    simp only [List.getElem?_map, Array.getElem?_toList, Array.getElem?_map, Option.map_eq_some_iff, Prod.mk.injEq] at hi hv
    obtain ⟨p, hp, rfl, rfl⟩ := hi
    obtain ⟨q, hq, rfl, rfl⟩ := hv
    rw [hp] at hq; cases hq
    exact ev h _) 0
  rcases hbs with ⟨b, im', w', ⟨hr, hok, hrep, hlen⟩ | hno⟩
  · exact ⟨_, im', w', hr, hok.sub (List.nil_sublist _), hrep.drop⟩
  · exact absurd hm hno

theorem str_pure {im : Im} {a : Act} {w : World} {E : Env} {H : AHeap} {B : Base} {s d : TypeId} {x : Operand} {v : AV} (h : St C B im E H a w) (hs : strToBytes C.P s d (evA C.gl E x) = some v) : Lays C.P im w (convert s d (a.eval x)) v := by
  unfold strToBytes at hs
  split at hs
  · rename_i e b k1 k2 hx
    split at hs
    · rename_i k3
      split at hs
      · rename_i hc
        cases hs
        have hxv := ev h x
        rw [hx] at hxv
        rw [sInv hxv]
        exact bytes_lays h.ok.imr k1 k2 k3 hc.1 hc.2
      · cases hs
    · cases hs
  · cases hs

theorem pureO_sound {B : Base} {im : Im} {E : Env} {H : AHeap} {a : Act} {w : World} {o : Oper} {v : AV} (h : St C B im E H a w) (hv : pureO C o E H = some v) :
    ∃ u im' w', (execOp a.eval o).run C.P w = .ok (.value u) w' ∧ Ok (here im w []) im' w' [] ∧ Rep im' v u := by
  unfold pureO at hv
  split at hv
  · rename_i t x ho
    exact lay_op h (x := Instr.box t (a.eval x)) (by simp [execOp, ho]) (boxA_sound (by simpa [boxA] using hv) (ev h x) h.ok.imr)
  · rename_i t n ps ho
    split at hv
    · rename_i e es hb
      split at hv
      · rename_i hm
        cases hv
        exact lay_op h (by simp only [execOp, ho]) (bsl_pure h hb hm)
      · cases hv
    · cases hv
  · rename_i s d x ho
    cases h1 : opVal C.P C.gl E H (.convert s d x) with
    | some v' => rw [h1] at hv; cases hv; exact val_op h (by rw [ho]; exact h1)
    | none =>
      rw [h1] at hv
      exact lay_op h (x := convert s d (a.eval x)) (by simp only [execOp, ho]) (str_pure h (by simpa using hv))
  · exact val_op h hv

/-- What an operation leaves in its slot. -/
def app (E : Env) (dst : Option Nat) (r : AV) : Env := match dst with | some d => upd E d r | none => E

def valK (C : Cx) (dst : Option Nat) (r : Option AV) (E : Env) (H : AHeap) (K : Env → AHeap → Prop) : Prop := match dst, r with
  | some d, some v => d < C.N ∧ K (upd E d v) H
  | _, _ => False

theorem valK_ext {dst : Option Nat} {r : Option AV} {E E' : Env} {H : AHeap} {K : Env → AHeap → Prop} (h : valK C dst r E H K) : valK C dst r E' H fun E1 H1 => ∃ r, E1 = app E' dst r ∧ K (app E dst r) H1 := by
  cases dst with
  | none => exact h.elim
  | some d =>
    cases r with
    | none => exact h.elim
    | some v => exact ⟨h.1, v, rfl, h.2⟩

def callK (C : Cx) (dst : Option Nat) (E : Env) (K : Env → AHeap → Prop) (av : AV) (H' : AHeap) : Prop := match dst with | some d => d < C.N ∧ K (upd E d av) H' | none => K E H'
theorem callK_ext {dst : Option Nat} {E E' : Env} {K : Env → AHeap → Prop} (av : AV) (H' : AHeap) (h : callK C dst E K av H') : callK C dst E' (fun E1 H1 => ∃ r, E1 = app E' dst r ∧ K (app E dst r) H1) av H' := by
  cases dst with
  | none => exact ⟨.any, rfl, h⟩
  | some d => exact ⟨h.1, av, rfl, h.2⟩

theorem opVC_ext {o : Oper} {E E' : Env} {H : AHeap} {K : Env → AHeap → Prop} (he : ∀ x ∈ opnds o.op, evA C.gl E x = evA C.gl E' x) (h : opVC C o E H K) : opVC C o E' H fun E1 H1 => ∃ r, E1 = app E' o.dst r ∧ K (app E o.dst r) H1 := by
  obtain ⟨dst, op, ty, pos, after, guard⟩ := o
  simp only at he
  cases op with
  | alloc t =>
    cases dst with
    | none => exact h.elim
    | some d => exact ⟨h.1, h.2.1, h.2.2.1, fun b => ⟨_, rfl, h.2.2.2 b⟩⟩
  | box t x =>
    cases dst with
    | none => exact h.elim
    | some d =>
      have e := he x (by simp [opnds])
      obtain ⟨h1, h2, h3⟩ := h
      refine ⟨h1, by rw [← e]; exact h2, ?_⟩
      split
      · rename_i hm; rw [if_pos hm] at h3; intro b; exact ⟨_, rfl, by rw [← e]; exact h3 b⟩
      · rename_i hm; rw [if_neg hm] at h3; exact ⟨_, rfl, by rw [← e]; exact h3⟩
  | buildSlice t n ps =>
    have e := pmap_ext (C := C) (E := E) (E' := E') (l := ps.toList) (by simpa [opnds] using he)
    simp only [opVC] at h ⊢
    rw [← e]
    split at h
    · rename_i d e' es hb
      obtain ⟨h1, h2, h3⟩ := h
      refine ⟨h1, h2, ?_⟩
      split
      · rename_i hm; rw [if_pos hm] at h3; intro q; exact ⟨_, rfl, h3 q⟩
      · rename_i hm; rw [if_neg hm] at h3; exact ⟨_, rfl, h3⟩
    · exact h.elim
  | store t p x =>
    have e1 := he p (by simp [opnds])
    have e2 := he x (by simp [opnds])
    simp only [opVC] at h ⊢
    rw [← e1, ← e2]
    split at h
    · rename_i l b off hp
      split at h
      · rename_i b' T cs hf
        obtain ⟨h1, h2, h3, h4, h5, h6, h7⟩ := h
        subst h6
        exact ⟨h1, h2, h3, h4, h5, rfl, .any, rfl, h7⟩
      · exact h.elim
    · exact h.elim
  | convert s t x =>
    have e1 := he x (by simp [opnds])
    have e2 := opVal_ext (C := C) (E := E) (E' := E') (H := H) (op := .convert s t x) he
    simp only [opVC] at h ⊢
    rw [← e1, ← e2]
    split at h
    · exact ⟨h.1, _, rfl, h.2⟩
    · exact ⟨h.1, _, rfl, h.2⟩
    · exact h.elim
  | call c =>
    obtain ⟨callee, ⟨args⟩, ⟨tys⟩⟩ := c
    cases callee with
    | invoke r m => exact h.elim
    | builtin b =>
      have ea := map_ext (C := C) (E := E) (E' := E') (l := args) fun x hx => he x (by simp only [opnds, List.mem_append]; exact .inr hx)
      simp only [opVC, callVC] at h ⊢
      split at h
      · rename_i hb
        rw [if_pos hb]
        split at h
        · rename_i d x y t tx
          have ex := he x (by simp [opnds])
          have ey := he y (by simp [opnds])
          rw [← ex, ← ey]
          unfold appendVC at h ⊢
          split at h
          · rename_i e hk
            obtain ⟨h1, h2, h3, h4, h5⟩ := h
            refine ⟨h1, h2, h3, h4, ?_⟩
            split at h5
            · exact ⟨h5.1, h5.2.1, fun q => ⟨_, rfl, h5.2.2 q⟩⟩
            · exact ⟨h5.1, h5.2.1, h5.2.2.1, fun q => ⟨_, rfl, h5.2.2.2 q⟩⟩
            · exact h5.elim
          · exact h.elim
        · exact h.elim
      · rename_i hb
        rw [if_neg hb, ← ea]
        split at h
        · exact ⟨h.1, _, rfl, h.2⟩
        · exact h.elim
    | value f =>
      have ef := he f (by simp [opnds])
      have ea := map_ext (C := C) (E := E) (E' := E') (l := args) fun x hx => he x (by simp only [opnds, List.mem_append]; exact .inr hx)
      simp only [opVC, callVC] at h ⊢
      rw [← ef, ← ea]
      split at h
      · exact ⟨h.1, h.2.1, h.2.2.1, h.2.2.2.mono fun av H' => callK_ext (C := C) (E := E) (E' := E') (dst := dst) (K := K) av H'⟩
      · exact ⟨h.1, h.2.1, h.2.2.mono fun av H' => callK_ext (C := C) (E := E) (E' := E') (dst := dst) (K := K) av H'⟩
      · exact h.elim
  | binOp op t x y yt =>
    have e1 := he x (by simp [opnds])
    have e2 := opVal_ext (C := C) (E := E) (E' := E') (H := H) (op := .binOp op t x y yt) he
    simp only [opVC] at h ⊢
    cases dst with
    | none => exact h.elim
    | some d =>
      simp only at h ⊢
      rw [← e1, ← e2]
      split
      · rename_i hn
        rw [if_pos hn] at h
        unfold nilVC at h ⊢
        split at h
        · exact ⟨h.1, fun t ht => ⟨_, rfl, h.2 t ht⟩⟩
        · split at h
          · exact ⟨h.1, _, rfl, h.2⟩
          · exact h.elim
      · rename_i hn
        rw [if_neg hn] at h
        split at h
        · exact ⟨h.1, _, rfl, h.2⟩
        · exact h.elim
  | makeMap t r =>
    simp only [opVC] at h ⊢
    split at h
    · exact ⟨h.1, fun b => ⟨_, rfl, h.2 b⟩⟩
    · exact h.elim
  | lookup t x k comma =>
    have e1 := he x (by simp [opnds])
    have e2 := he k (by simp [opnds])
    simp only [opVC] at h ⊢
    rw [← e1, ← e2]
    split at h
    · exact ⟨h.1, _, rfl, h.2⟩
    · exact h.elim
  | mapUpdate t m k x =>
    have e1 := he m (by simp [opnds])
    have e2 := he k (by simp [opnds])
    have e3 := he x (by simp [opnds])
    simp only [opVC] at h ⊢
    rw [← e1, ← e2, ← e3]
    obtain ⟨rfl, h⟩ := h
    refine ⟨rfl, ?_⟩
    unfold mapVC at h ⊢
    split at h
    · refine ⟨h.1, ?_⟩
      have h2 := h.2
      split at h2
      · exact ⟨h2.1, .any, rfl, h2.2⟩
      · exact h2.elim
    · exact h.elim
  | range t x =>
    have e1 := he x (by simp [opnds])
    simp only [opVC] at h ⊢
    cases dst with
    | none => exact h.elim
    | some d =>
      simp only at h ⊢
      rw [← e1]
      unfold rangeVC at h ⊢
      split at h
      · exact ⟨h.1, fun b => ⟨_, rfl, h.2 b⟩⟩
      · exact h.elim
  | next it isStr =>
    have e1 := he it (by simp [opnds])
    simp only [opVC] at h ⊢
    cases dst with
    | none => exact h.elim
    | some d =>
      simp only at h ⊢
      rw [← e1]
      refine ⟨h.1, ?_⟩
      have h2 := h.2
      unfold nextVC at h2 ⊢
      split at h2
      · split at h2
        · exact ⟨h2.1, h2.2.1, _, rfl, h2.2.2⟩
        · exact h2.elim
      · exact h2.elim
  | makeSlice t l c =>
    have e1 := he l (by simp [opnds])
    have e2 := he c (by simp [opnds])
    simp only [opVC] at h ⊢
    cases dst with
    | none => exact h.elim
    | some d =>
      simp only at h ⊢
      rw [← e1, ← e2]
      unfold makeVC at h ⊢
      split at h
      · exact ⟨h.1, h.2.1, h.2.2.1, h.2.2.2.1, h.2.2.2.2.1, h.2.2.2.2.2.1, h.2.2.2.2.2.2.1, fun q => ⟨_, rfl, h.2.2.2.2.2.2.2 q⟩⟩
      · exact h.elim
  | _ =>
    have hv := opVal_ext (C := C) (E := E) (E' := E') (H := H) he
    have h' : valK C dst (opVal C.P C.gl E H _) E H K := h
    rw [hv] at h'
    exact valK_ext (C := C) (E' := E') h'
end
end Go.Proofs.YtjhnabdcmfjeoaaGreatDoor.Ab
/- Regions that draw their order: the plan suffices. Own work; a plain theory over any program. -/
set_option linter.unusedVariables false
set_option linter.unusedSimpArgs false
namespace Go.Proofs.YtjhnabdcmfjeoaaGreatDoor.Ab
open Go

section
variable {C : Cx}

/-- Virtually done, but not yet by the machine. -/
def pend (V : List Nat) (S : Array Bool) (i : Nat) : Bool := V.contains i && !S.getD i false

def mask (ops : Array Oper) (V : List Nat) (S : Array Bool) (E : Env) : Env := fun t => if (List.range ops.size).any (fun i => pend V S i && slotOf ops i == some t) = true then .any else E t

theorem mask_eq {ops : Array Oper} {V : List Nat} {S : Array Bool} {E : Env} {t : Nat} (h : ∀ i, i < ops.size → pend V S i = true → slotOf ops i ≠ some t) : mask ops V S E t = E t := by
  unfold mask
  rw [if_neg]
  intro hc
  obtain ⟨i, hi, hp⟩ := List.any_eq_true.1 hc
  simp only [Bool.and_eq_true, beq_iff_eq] at hp
  exact h i (List.mem_range.1 hi) hp.1 hp.2

theorem mask_or (ops : Array Oper) (V : List Nat) (S : Array Bool) (E : Env) (t : Nat) : mask ops V S E t = .any ∨ (mask ops V S E t = E t ∧ ∀ i, i < ops.size → pend V S i = true → slotOf ops i ≠ some t) := by
  by_cases h : (List.range ops.size).any (fun i => pend V S i && slotOf ops i == some t) = true
  · left; unfold mask; rw [if_pos h]
  · right
    have : ∀ i, i < ops.size → pend V S i = true → slotOf ops i ≠ some t := by
      intro i hi hp hs
      apply h
      exact List.any_eq_true.2 ⟨i, List.mem_range.2 hi, by simp [hp, hs]⟩
    exact ⟨mask_eq this, this⟩

/-- What holds between the machine (S: done) and the walk along the plan (V: done). -/
structure Inv (C : Cx) (ops : Array Oper) (B : Base) (S : Array Bool) (V : List Nat) (E : Env) (H : AHeap) (im : Im) (a : Act) (w : World) : Prop where
  st : St C B im (mask ops V S E) H a w
  ssz : S.size = ops.size
  sub : ∀ i, S.getD i false = true → i ∈ V
  vlt : ∀ i ∈ V, i < ops.size
  pur : ∀ i ∈ V, S.getD i false = false → ∃ (o : Oper) (d : Nat), ops[i]? = some o ∧ o.dst = some d ∧ d < C.N ∧ isPure C.mu o = true ∧ pureG C ops o E H = some (E d)
  sdep : ∀ i, S.getD i false = true → ∀ o : Oper, ops[i]? = some o → ∀ k ∈ deps o, S.getD k false = true
  vdep : ∀ i ∈ V, ∀ o : Oper, ops[i]? = some o → ∀ k ∈ deps o, k ∈ V

structure OkAll (C : Cx) (ops : Array Oper) : Prop where
  get : ∀ i, i < ops.size → ∃ o, ops[i]? = some o
  early : ∀ (i : Nat) (o : Oper), ops[i]? = some o → ∀ k ∈ deps o, k < i
  self : ∀ (i : Nat) (o : Oper) (d : Nat), ops[i]? = some o → o.dst = some d → d ∉ reads ops o
  dist : ∀ (i k : Nat) (o p : Oper) (d : Nat), ops[i]? = some o → ops[k]? = some p → o.dst = some d → k ≠ i → p.dst ≠ some d
  rd : ∀ (i k : Nat) (o p : Oper) (d : Nat), ops[i]? = some o → ops[k]? = some p → o.dst = some d → k ≠ i → d ∈ reads ops p → i ∈ deps p ∨ (isPure C.mu o = false ∧ k ∈ deps o)

theorem opsOk_all {ops : Array Oper} (h : opsOk ops C.mu = true) : OkAll C ops := by
  have hall := List.all_eq_true.1 h
  have hlt : ∀ (i : Nat) (o : Oper), ops[i]? = some o → i < ops.size := fun i o ho => (Array.getElem?_eq_some_iff.1 ho).1
  have key : ∀ (i : Nat) (o : Oper), ops[i]? = some o → (deps o).all (· < i) = true ∧ (∀ d, o.dst = some d → (reads ops o).contains d = false ∧ ∀ k, k < ops.size → k ≠ i → ∃ p, ops[k]? = some p ∧ p.dst ≠ some d ∧ ((reads ops p).contains d = false ∨ (deps p).contains i = true ∨ (isPure C.mu o = false ∧ (deps o).contains k = true))) := by
    intro i o ho
    have := hall i (List.mem_range.2 (hlt i o ho))
    simp only [ho, Bool.and_eq_true] at this
    refine ⟨this.1, fun d hd => ?_⟩
    have h2 := this.2
    simp only [hd, Bool.and_eq_true, Bool.not_eq_true'] at h2
    refine ⟨h2.1, fun k hk hne => ?_⟩
    have h3 := List.all_eq_true.1 h2.2 k (List.mem_range.2 hk)
    simp only [Bool.or_eq_true, beq_iff_eq, hne, false_or] at h3
    cases hp : ops[k]? with
    | none => simp [hp] at h3
    | some p =>
      simp only [hp, Bool.and_eq_true, Bool.not_eq_true', Bool.or_eq_true] at h3
      refine ⟨p, rfl, ?_, ?_⟩
      · intro e; simp [e] at h3
      · rcases h3.2 with (h4 | h4) | h4
        · exact .inl h4
        · exact .inr (.inl h4)
        · exact .inr (.inr h4)
  refine ⟨fun i hi => ⟨ops[i], by simp [hi]⟩, fun i o ho k hk => by simpa using List.all_eq_true.1 (key i o ho).1 k hk, fun i o d ho hd hm => ?_, fun i k o p d ho hp hd hne => ?_, fun i k o p d ho hp hd hne hm => ?_⟩
  · have := ((key i o ho).2 d hd).1
    simp [hm] at this
  · obtain ⟨p', hp', h1, _⟩ := ((key i o ho).2 d hd).2 k (hlt k p hp) hne
    rw [hp] at hp'; cases hp'; exact h1
  · obtain ⟨p', hp', _, h2⟩ := ((key i o ho).2 d hd).2 k (hlt k p hp) hne
    rw [hp] at hp'; cases hp'
    rcases h2 with h2 | h2 | h2
    · simp [hm] at h2
    · exact .inl (by simpa using h2)
    · exact .inr ⟨h2.1, by simpa using h2.2⟩

/-- One operation's condition, without its guard. -/
theorem ops_one {ops : Array Oper} {o : Oper} {E : Env} {H : AHeap} {K : Env → AHeap → Prop} (hp : isPure C.mu o = true) {d : Nat} (hd : o.dst = some d) (h : opsVC C ops [o] E H K) :
    ∃ v, pureG C ops o E H = some v ∧ d < C.N ∧ K (upd E d v) H := by
  simp only [opsVC] at h
  unfold pureG
  cases hg : o.guard with
  | none =>
    rw [hg] at h
    exact opVC_pure hd hp h
  | some jw =>
    obtain ⟨j, want⟩ := jw
    rw [hg] at h
    simp only [hd] at h
    simp only [slotOf]
    cases hs : (ops[j]?).bind (·.dst) with
    | none => rw [hs] at h; exact h.elim
    | some g =>
      rw [hs] at h
      simp only at h ⊢
      cases hE : E g with
      | s u =>
        rw [hE] at h
        cases u with
        | bool x =>
          simp only at h ⊢
          have hsame : ∀ y, x = y → upd E g (.s (.bool y)) = E := by
            intro y e; subst e; funext t; unfold upd; split
            · rename_i e; subst e; exact hE.symm
            · rfl
          by_cases hx : x = want
          · rw [if_pos hx]
            have h1 := h.1 hx
            rw [hsame want hx] at h1
            exact opVC_pure hd hp h1
          · have hxn : x = !want := by cases x <;> cases want <;> simp_all
            rw [if_neg hx]
            obtain ⟨h1, h2⟩ := h.2 hxn
            rw [hsame _ hxn] at h2
            exact ⟨_, rfl, h1, h2⟩
        | tuple vs => simp only at h ⊢; exact ⟨_, rfl, h.1, h.2⟩
        | _ => exact h.elim
      | _ => rw [hE] at h; exact h.elim

/-- The walk goes on by an operation that changes nothing: the machine may do it later. -/
theorem Inv.vstep {ops : Array Oper} {B : Base} {S : Array Bool} {V : List Nat} {E : Env} {H : AHeap} {im : Im} {a : Act} {w : World} (hall : OkAll C ops) (hI : Inv C ops B S V E H im a w) {i : Nat} {o : Oper} {d : Nat} {v : AV}
    (ho : ops[i]? = some o) (hd : o.dst = some d) (hp : isPure C.mu o = true) (hv : pureG C ops o E H = some v) (hN : d < C.N) (hn : i ∉ V) (hdep : ∀ k ∈ deps o, k ∈ V) : Inv C ops B S (i :: V) (upd E d v) H im a w := by
  have hlt : i < ops.size := (Array.getElem?_eq_some_iff.1 ho).1
  have hSi : S.getD i false = false := by
    cases e : S.getD i false with
    | false => rfl
    | true => exact absurd (hI.sub i e) hn
  have hslot : slotOf ops i = some d := by simp [slotOf, ho, hd]
  refine ⟨⟨hI.st.ok, fun t => ?_, hI.st.glo, hI.st.defers, hI.st.size⟩, hI.ssz, fun k hk => List.mem_cons_of_mem _ (hI.sub k hk), fun k hk => ?_, fun k hk hS => ?_, hI.sdep, fun k hk p hp' q hq => ?_⟩
  · rcases mask_or ops (i :: V) S (upd E d v) t with h | ⟨h, h1⟩
    · rw [h]; exact .any _
    · rw [h]
      have htd : t ≠ d := fun e => by
        subst e
        exact h1 i hlt (by simp [pend, hSi]) hslot
      have h2 : mask ops V S E t = E t := mask_eq fun k hk hpk => h1 k hk (by simp only [pend, List.contains_cons, Bool.and_eq_true, Bool.or_eq_true] at hpk ⊢; exact ⟨.inr hpk.1, hpk.2⟩)
      have := hI.st.env t
      rw [h2] at this
      simpa [upd, htd] using this
  · rcases List.mem_cons.1 hk with rfl | hk
    · exact hlt
    · exact hI.vlt k hk
  · rcases List.mem_cons.1 hk with rfl | hk
    · refine ⟨o, d, ho, hd, hN, hp, ?_⟩
      rw [← pureG_ext (E := E) fun t ht => ?_, hv]
      · simp [upd]
      · have : t ≠ d := fun e => by subst e; exact hall.self _ o t ho hd ht
        simp [upd, this]
    · obtain ⟨p, e, hp1, hp2, hp3, hp4, hp5⟩ := hI.pur k hk hS
      have hki : k ≠ i := fun e => hn (e ▸ hk)
      have hne : e ≠ d := fun e' => by subst e'; exact hall.dist i k o p e ho hp1 hd hki hp2
      refine ⟨p, e, hp1, hp2, hp3, hp4, ?_⟩
      rw [← pureG_ext (E := E) fun t ht => ?_, hp5]
      · simp [upd, hne]
      · have : t ≠ d := fun e => by
          subst e
          rcases hall.rd i k o p t ho hp1 hd hki ht with h1 | h1
          · exact hn (hI.vdep k hk p hp1 i h1)
          · rw [hp] at h1; cases h1.1
        simp [upd, this]
  · rcases List.mem_cons.1 hk with rfl | hk
    · rw [ho] at hp'; cases hp'; exact List.mem_cons_of_mem _ (hdep q hq)
    · exact List.mem_cons_of_mem _ (hI.vdep k hk p hp' q hq)

theorem getD_set {S : Array Bool} {k i : Nat} (hk : k < S.size) : (S.setIfInBounds k true).getD i false = if i = k then true else S.getD i false := by
  simp only [Array.getD_eq_getD_getElem?, Array.getElem?_setIfInBounds]
  by_cases h : i = k
  · subst h; simp [hk]
  · simp [h, Ne.symm h]

theorem yielded_bool {im : Im} {E : Env} {a : Act} {ops : Array Oper} {j g : Nat} {x : Bool} (hs : slotOf ops j = some g) (hr : Rep im (E g) (a.tmps.getD g undef)) (he : E g = .s (.bool x)) : yielded ops a.tmps j = some x := by
  rw [he] at hr
  have hval := sInv hr
  have hget : a.tmps[g]? = some (.bool x) := by
    simp only [Array.getD_eq_getD_getElem?] at hval
    cases e : a.tmps[g]? with
    | none => simp [e, undef] at hval
    | some u => simp [e] at hval; rw [hval]
  simp only [slotOf] at hs
  simp [yielded, hs, hget]

theorem yielded_tuple {im : Im} {E : Env} {a : Act} {ops : Array Oper} {j g : Nat} {vs : Array Value} (hs : slotOf ops j = some g) (hr : Rep im (E g) (a.tmps.getD g undef)) (he : E g = .s (.tuple vs)) : yielded ops a.tmps j = none := by
  rw [he] at hr
  have hval := sInv hr
  simp only [slotOf] at hs
  simp only [Array.getD_eq_getD_getElem?] at hval
  simp only [yielded, hs, Option.bind_some]
  cases e : a.tmps[g]? with
  | none => rfl
  | some u => simp [e] at hval; rw [hval]

/-- The machine does what the walk has done already. -/
theorem Inv.late {ops : Array Oper} {B : Base} {S : Array Bool} {V : List Nat} {E : Env} {H : AHeap} {im : Im} {a : Act} {w : World} {Q : Exit → Act → World → Prop} {K : Act → World → Prop} (hall : OkAll C ops) (hI : Inv C ops B S V E H im a w)
    {k : Nat} (hk : k ∈ V) (hS : S.getD k false = false) (hdep : ∀ o, ops[k]? = some o → ∀ q ∈ deps o, S.getD q false = true)
    (hK : ∀ im' a' w', Inv C ops B (S.setIfInBounds k true) V E H im' a' w' → K a' w') : wpOp C.P ops Q k K a w := by
  obtain ⟨o, d, ho, hd, hN, hp, hv⟩ := hI.pur k hk hS
  have hklt := hI.vlt k hk
  have hslot : slotOf ops k = some d := by simp [slotOf, ho, hd]
  -- what it reads is not hidden
  have hsee : ∀ t ∈ reads ops o, mask ops V S E t = E t := by
    intro t ht
    refine mask_eq fun i hi hpi hs => ?_
    obtain ⟨p, hpg⟩ := hall.get i hi
    simp only [slotOf, hpg, Option.bind_some] at hs
    simp only [pend, Bool.and_eq_true, Bool.not_eq_true'] at hpi
    by_cases hik : i = k
    · subst hik; rw [ho] at hpg; cases hpg; exact hall.self _ o t ho hs ht
    · rcases hall.rd i k p o t hpg ho hs (Ne.symm hik) ht with h1 | h1
      · have := hdep o ho i h1; rw [this] at hpi; simp at hpi
      · obtain ⟨p', e, hp1, _, _, hp4, _⟩ := hI.pur i (by simpa using hpi.1) hpi.2
        rw [hpg] at hp1; cases hp1; rw [hp4] at h1; cases h1.1
  have hvm : pureG C ops o (mask ops V S E) H = some (E d) := by rw [pureG_ext (E' := E) hsee]; exact hv
  -- how the machine stands behind it
  have hnext : ∀ im' w' u, Ok B im' w' H → Le im im' → Rep im' (E d) u → Inv C ops B (S.setIfInBounds k true) V E H im' (a.put (some d) u) w' := by
    intro im' w' u hok hle hu
    have hg : ∀ i, (S.setIfInBounds k true).getD i false = if i = k then true else S.getD i false := fun i => getD_set (by rw [hI.ssz]; exact hklt)
    refine ⟨⟨hok, fun t => ?_, hI.st.glo.mono hle, by rw [defers_put]; exact hI.st.defers, by rw [size_put]; exact hI.st.size⟩, by rw [Array.size_setIfInBounds]; exact hI.ssz, fun i hi => ?_, hI.vlt, fun i hi hSi => ?_, fun i hi p hp' q hq => ?_, hI.vdep⟩
    · have hput := (RepE.put (hI.st.env.mono hle) (d := d) (by rw [hI.st.size]; exact hN) hu) t
      rcases mask_or ops V (S.setIfInBounds k true) E t with h | ⟨h, h1⟩
      · rw [h]; exact .any _
      · rw [h]
        by_cases htd : t = d
        · subst htd; simpa [upd] using hput
        · have : mask ops V S E t = E t := mask_eq fun i hi hpi hs => by
            by_cases hik : i = k
            · subst hik; rw [hslot] at hs; cases hs; exact htd rfl
            · exact h1 i hi (by simp only [pend, hg, hik, if_false] at hpi ⊢; exact hpi) hs
          simp only [upd, htd, if_false, this] at hput
          exact hput
    · rw [hg] at hi
      split at hi
      · rename_i e; subst e; exact hk
      · exact hI.sub i hi
    · rw [hg] at hSi
      split at hSi
      · cases hSi
      · exact hI.pur i hi hSi
    · rw [hg] at hi ⊢
      split
      · rfl
      · split at hi
        · rename_i e; subst e; exact hdep p hp' q hq
        · exact hI.sdep i hi p hp' q hq
  unfold wpOp
  rw [ho]
  simp only
  have doit : pureO C o (mask ops V S E) H = some (E d) → o.wp C.P a w K Q := by
    intro h1
    obtain ⟨u, im', w', hr, hok, hu⟩ := pureO_sound hI.st h1
    refine upon_value (v := u) (w' := w') hr ?_
    rw [hd]
    exact hK im' _ w' (hnext im' w' u (by simpa using hI.st.ok.stepNone hok) hok.le hu)
  have skip : E d = undefA → K (a.put o.dst undef) w := by
    intro h1
    rw [hd]
    exact hK im _ w (hnext im w undef hI.st.ok (Le.refl _) (by rw [h1]; exact .s undef))
  unfold pureG at hvm
  cases hg : o.guard with
  | none =>
    rw [hg] at hvm
    rw [if_pos (wanted_none hg _)]
    exact .inl (doit hvm)
  | some jw =>
    obtain ⟨j, want⟩ := jw
    rw [hg] at hvm
    simp only at hvm
    split at hvm
    · rename_i g hs
      split at hvm
      · rename_i x he
        have hy := yielded_bool hs (hI.st.env g) he
        split at hvm
        · rename_i hx
          rw [if_pos (by simp [Region.wanted, hg, hy, hx])]
          exact .inl (doit hvm)
        · rename_i hx
          rw [if_neg (by simp [Region.wanted, hg, hy, hx])]
          cases hvm' : E d <;> simp_all
      · rename_i he
        have hy := yielded_tuple hs (hI.st.env g) he
        rw [if_neg (by simp [Region.wanted, hg, hy])]
        cases hvm' : E d <;> simp_all
      · cases hvm
    · cases hvm
end
end Go.Proofs.YtjhnabdcmfjeoaaGreatDoor.Ab
/- Regions that draw their order: the theorem. Own work; a plain theory over any program. -/
set_option linter.unusedVariables false
set_option linter.unusedSimpArgs false
namespace Go.Proofs.YtjhnabdcmfjeoaaGreatDoor.Ab
open Go

section
variable {C : Cx}

theorem opsVC_ext {ops : Array Oper} {o : Oper} {E E' : Env} {H : AHeap} {K : Env → AHeap → Prop} (he : ∀ t ∈ reads ops o, E t = E' t) (h : opsVC C ops [o] E H K) :
    opsVC C ops [o] E' H fun E1 H1 => ∃ r, E1 = app E' o.dst r ∧ K (app E o.dst r) H1 := by
  have hx := ev_ext (C := C) (E := E) (E' := E') fun t ht => he t (List.mem_append_left _ ht)
  simp only [opsVC] at h ⊢
  cases hg : o.guard with
  | none => rw [hg] at h; exact opVC_ext hx h
  | some jw =>
    obtain ⟨j, want⟩ := jw
    rw [hg] at h
    simp only at h ⊢
    cases hs : (ops[j]?).bind (·.dst) with
    | none => rw [hs] at h; exact h.elim
    | some g =>
      cases hd : o.dst with
      | none => rw [hs, hd] at h; exact h.elim
      | some d =>
        rw [hs, hd] at h
        simp only at h ⊢
        have hgE : E g = E' g := he g (List.mem_append_right _ (by simp [guardSlot, hg, slotOf, hs]))
        have hsame : ∀ (F : Env) y, F g = .s (.bool y) → upd F g (.s (.bool y)) = F := by
          intro F y e; funext t; unfold upd; split
          · rename_i e'; subst e'; exact e.symm
          · rfl
        rw [← hgE]
        cases hE : E g with
        | s u =>
          rw [hE] at h
          cases u with
          | bool x =>
            simp only at h ⊢
            refine ⟨fun hxw => ?_, fun hxw => ?_⟩
            · have h1 := h.1 hxw
              subst hxw
              rw [hsame E _ hE] at h1
              rw [hsame E' _ (by rw [← hgE]; exact hE)]
              have := opVC_ext hx h1
              rw [hd] at this
              exact this
            · obtain ⟨h1, h2⟩ := h.2 hxw
              rw [← hxw, hsame E _ hE] at h2
              rw [← hxw, hsame E' _ (by rw [← hgE]; exact hE)]
              exact ⟨h1, _, rfl, h2⟩
          | tuple vs => simp only at h ⊢; exact ⟨h.1, _, rfl, h.2⟩
          | _ => exact h.elim
        | _ => rw [hE] at h; exact h.elim

theorem one_sound {ops : Array Oper} {k : Nat} {o : Oper} {B : Base} {im : Im} {E : Env} {H : AHeap} {a : Act} {w : World} {K : Env → AHeap → Prop} {Kc : Act → World → Prop} {Q : Exit → Act → World → Prop} (ho : ops[k]? = some o)
    (h : St C B im E H a w) (hv : opsVC C ops [o] E H K) (hK : ∀ im' E' H' a' w', St C B im' E' H' a' w' → Le im im' → K E' H' → Kc a' w') : wpOp C.P ops Q k Kc a w := by
  unfold wpOp
  rw [ho]
  simp only
  simp only [opsVC] at hv
  have run : ∀ E0, RepE im E0 a → opVC C o E0 H K → o.wp C.P a w Kc Q := by
    intro E0 hE0 h0
    -- the protected cells only grow
    have hst := fits_env h hE0
    have := opVC_sound (K := fun E' H' => K E' H') (Q := Q) (B := here im w H) ⟨hst.ok.refl, hst.env, hst.glo, hst.defers, hst.size⟩ h0
    refine Oper.wp_mono (fun a' w' hf => ?_) this
    obtain ⟨im', E', H', h', hk⟩ := hf
    have hok : Ok B im' w' H' := by have := Ok.step (F := []) (by simpa using h.ok) h'.ok; simpa using this
    exact hK im' E' H' a' w' ⟨hok, h'.env, h'.glo, h'.defers, h'.size⟩ h'.ok.le hk
  cases hg : o.guard with
  | none =>
    rw [hg] at hv
    rw [if_pos (wanted_none hg _)]
    exact .inl (run E h.env hv)
  | some jw =>
    obtain ⟨j, want⟩ := jw
    rw [hg] at hv
    simp only at hv
    split at hv
    · rename_i g d hs hd
      have hslot := h.env g
      have hs' : slotOf ops j = some g := hs
      split at hv
      · rename_i x he
        have hy := yielded_bool hs' hslot he
        rw [he] at hslot
        have hval := sInv hslot
        by_cases hx : x = want
        · rw [if_pos (by simp [Region.wanted, hg, hy, hx])]
          exact .inl (run _ (repE_upd_same h.env (by rw [hval, hx]; exact .s _)) (hv.1 hx))
        · have hxn : x = !want := by cases x <;> cases want <;> simp_all
          rw [if_neg (by simp [Region.wanted, hg, hy, hx])]
          obtain ⟨hN, hv'⟩ := hv.2 hxn
          have hst := fits_env h (repE_upd_same (g := g) (av := .s (.bool (!want))) h.env (by rw [hval, hxn]; exact .s _))
          rw [hd]
          exact hK im _ H _ w ⟨h.ok, hst.env.put (by rw [h.size]; exact hN) (.s undef), h.glo, by rw [defers_put]; exact h.defers, by rw [size_put]; exact h.size⟩ (Le.refl _) hv'
      · rename_i he
        have hy := yielded_tuple hs' hslot he
        rw [if_neg (by simp [Region.wanted, hg, hy])]
        rw [hd]
        exact hK im _ H _ w ⟨h.ok, h.env.put (by rw [h.size]; exact hv.1) (.s undef), h.glo, by rw [defers_put]; exact h.defers, by rw [size_put]; exact h.size⟩ (Le.refl _) hv.2
      · exact hv.elim
    · exact hv.elim

theorem recheck_mem {ops : Array Oper} {l : List Nat} {E : Env} {H : AHeap} (h : recheck C ops l E H) {i : Nat} (hi : i ∈ l) : ∃ o d, ops[i]? = some o ∧ o.dst = some d ∧ pureG C ops o E H = some (E d) := by
  induction l with
  | nil => cases hi
  | cons k l ih =>
    simp only [recheck] at h
    rcases List.mem_cons.1 hi with rfl | hi
    · cases ho : ops[i]? with
      | none => simp [ho] at h
      | some o =>
        cases hd : o.dst with
        | none => simp [ho, hd] at h
        | some d => exact ⟨o, d, rfl, hd, by simpa [ho, hd] using h.1⟩
    · exact ih h.2 hi

/-- The machine and the walk go on together by an operation that changes what is owned. -/
theorem Inv.both {ops : Array Oper} {B : Base} {S : Array Bool} {V : List Nat} {E : Env} {H : AHeap} {im : Im} {a : Act} {w : World} {Q : Exit → Act → World → Prop} {Kc : Act → World → Prop} {K : Env → AHeap → Prop} (hall : OkAll C ops)
    (hI : Inv C ops B S V E H im a w) {k : Nat} {o : Oper} {chk : List Nat} (ho : ops[k]? = some o) (hk : k ∉ V) (hnp : isPure C.mu o = false) (hdep : ∀ q ∈ deps o, S.getD q false = true) (hchk : (looseLoads ops V k).all chk.contains = true)
    (hv : opsVC C ops [o] E H fun E' H' => recheck C ops chk E' H' ∧ K E' H')
    (hK : ∀ im' E' H' a' w', Inv C ops B (S.setIfInBounds k true) (k :: V) E' H' im' a' w' → K E' H' → Kc a' w') : wpOp C.P ops Q k Kc a w := by
  have hklt : k < ops.size := (Array.getElem?_eq_some_iff.1 ho).1
  have hSk : S.getD k false = false := by
    cases e : S.getD k false with
    | false => rfl
    | true => exact absurd (hI.sub k e) hk
  have hsee : ∀ t ∈ reads ops o, E t = mask ops V S E t := by
    intro t ht
    refine (mask_eq fun i hi hpi hs => ?_).symm
    obtain ⟨p, hpg⟩ := hall.get i hi
    simp only [slotOf, hpg, Option.bind_some] at hs
    simp only [pend, Bool.and_eq_true, Bool.not_eq_true'] at hpi
    have hik : i ≠ k := fun e => by subst e; exact hk (by simpa using hpi.1)
    rcases hall.rd i k p o t hpg ho hs (Ne.symm hik) ht with h1 | h1
    · have := hdep i h1; rw [this] at hpi; simp at hpi
    · obtain ⟨p', e, hp1, _, _, hp4, _⟩ := hI.pur i (by simpa using hpi.1) hpi.2
      rw [hpg] at hp1; cases hp1; rw [hp4] at h1; cases h1.1
  refine one_sound ho hI.st (opsVC_ext hsee hv) ?_
  rintro im' E1 H1 a' w' hst hle ⟨r, rfl, hre, hKr⟩
  refine hK im' _ H1 a' w' ?_ hKr
  have hg : ∀ i, (S.setIfInBounds k true).getD i false = if i = k then true else S.getD i false := fun i => getD_set (by rw [hI.ssz]; exact hklt)
  have happ : ∀ (F : Env) t, o.dst ≠ some t → app F o.dst r t = F t := by
    intro F t hne
    unfold app
    cases hd : o.dst with
    | none => rfl
    | some d => simp only [upd]; rw [if_neg]; intro e; subst e; exact hne hd
  refine ⟨⟨hst.ok, fun t => ?_, hst.glo, hst.defers, hst.size⟩, by rw [Array.size_setIfInBounds]; exact hI.ssz, fun i hi => ?_, fun i hi => ?_, fun i hi hSi => ?_, fun i hi p hp' q hq => ?_, fun i hi p hp' q hq => ?_⟩
  · rcases mask_or ops (k :: V) (S.setIfInBounds k true) (app E o.dst r) t with h | ⟨h, h1⟩
    · rw [h]; exact .any _
    · rw [h]
      have hq := hst.env t
      by_cases hd : o.dst = some t
      · have : ∀ F : Env, app F o.dst r t = r := fun F => by rw [hd]; simp [app, upd]
        rw [this] at hq ⊢; exact hq
      · rw [happ _ t hd] at hq ⊢
        have : mask ops V S E t = E t := mask_eq fun i hi hpi hs => by
          have hik : i ≠ k := fun e => by subst e; simp only [pend, Bool.and_eq_true] at hpi; exact hk (by simpa using hpi.1)
          exact h1 i hi (by simp only [pend, hg, hik, if_false, List.contains_cons, Bool.and_eq_true, Bool.or_eq_true] at hpi ⊢; exact ⟨.inr hpi.1, hpi.2⟩) hs
        rw [this] at hq; exact hq
  · rw [hg] at hi
    split at hi
    · rename_i e; subst e; exact List.mem_cons_self
    · exact List.mem_cons_of_mem _ (hI.sub i hi)
  · rcases List.mem_cons.1 hi with rfl | hi
    · exact hklt
    · exact hI.vlt i hi
  · rw [hg] at hSi
    split at hSi
    · cases hSi
    · rename_i hik
      have hiV : i ∈ V := by rcases List.mem_cons.1 hi with e | e; exact absurd e hik; exact e
      obtain ⟨p, d, hp1, hp2, hp3, hp4, hp5⟩ := hI.pur i hiV hSi
      refine ⟨p, d, hp1, hp2, hp3, hp4, ?_⟩
      have hEd : app E o.dst r d = E d := happ E d fun e => hall.dist k i o p d ho hp1 e hik hp2
      by_cases hl : isLoad p.op = true
      · have hnd : i ∉ deps o := fun h => by rw [hdep i h] at hSi; cases hSi
        have hin : i ∈ looseLoads ops V k := List.mem_filter.2 ⟨hiV, by simp [hp1, hl, ho, hnd]⟩
        have hic := List.all_eq_true.1 hchk i hin
        obtain ⟨p', d', h1, h2, h3⟩ := recheck_mem hre (by simpa using hic)
        rw [hp1] at h1; cases h1
        rw [hp2] at h2; cases h2
        exact h3
      · have hl' : isLoad p.op = false := by simpa using hl
        rw [pureG_heap (H' := H) hl', hEd, ← hp5]
        refine pureG_ext fun t ht => happ E t fun hd => ?_
        rcases hall.rd k i o p t ho hp1 hd hik ht with h1 | h1
        · exact hk (hI.vdep i hiV p hp1 k h1)
        · rw [hdep i h1.2] at hSi; cases hSi
  · rw [hg] at hi ⊢
    split
    · rfl
    · split at hi
      · rename_i e; subst e; rw [ho] at hp'; cases hp'; exact hdep q hq
      · exact hI.sdep i hi p hp' q hq
  · rcases List.mem_cons.1 hi with rfl | hi
    · rw [ho] at hp'; cases hp'; exact List.mem_cons_of_mem _ (hI.sub q (hdep q hq))
    · exact List.mem_cons_of_mem _ (hI.vdep i hi p hp' q hq)

theorem mem_deps {o : Oper} {k : Nat} : k ∈ deps o ↔ ∃ e ∈ o.after.toList, Region.binds .any e = true ∧ e.on = k := by
  simp [deps, List.mem_map, List.mem_filter, and_assoc]

theorem ready_mem {ops : Array Oper} {S : Array Bool} (hS : S.size = ops.size) {i : Nat} : i ∈ Region.ready .any ops S ↔ i < ops.size ∧ S.getD i false = false ∧ ∀ o, ops[i]? = some o → ∀ k ∈ deps o, S.getD k false = true := by
  simp only [Region.ready, List.mem_filter, List.mem_range]
  constructor
  · rintro ⟨h1, h2⟩
    have ho : ops[i]? = some ops[i] := by simp [h1]
    simp only [ho, Option.map_some, Option.getD_some, Bool.and_eq_true, Bool.not_eq_true'] at h2
    refine ⟨h1, by rw [← h2.1]; simp [Array.getD_eq_getD_getElem?, show i < S.size by omega], fun o ho' k hk => ?_⟩
    rw [ho] at ho'; cases ho'
    obtain ⟨e, he, hb, rfl⟩ := mem_deps.1 hk
    have := Array.all_eq_true'.1 h2.2 e (by simpa using he)
    simpa [hb] using this
  · rintro ⟨h1, h2, h3⟩
    have ho : ops[i]? = some ops[i] := by simp [h1]
    refine ⟨h1, ?_⟩
    simp only [ho, Option.map_some, Option.getD_some, Bool.and_eq_true, Bool.not_eq_true']
    refine ⟨by rw [← h2]; simp [Array.getD_eq_getD_getElem?, show i < S.size by omega], Array.all_eq_true'.2 fun e he => ?_⟩
    by_cases hb : Region.binds .any e = true
    · simp [hb, h3 _ ho e.on (mem_deps.2 ⟨e, by simpa using he, hb, rfl⟩)]
    · simp [hb]

theorem readyV_mem {ops : Array Oper} {V : List Nat} {i : Nat} : i ∈ readyV ops V ↔ i < ops.size ∧ i ∉ V ∧ ∀ o, ops[i]? = some o → ∀ k ∈ deps o, k ∈ V := by
  simp only [readyV, List.mem_filter, List.mem_range]
  constructor
  · rintro ⟨h1, h2⟩
    have ho : ops[i]? = some ops[i] := by simp [h1]
    simp only [ho, Option.map_some, Option.getD_some, Bool.and_eq_true, Bool.not_eq_true'] at h2
    refine ⟨h1, by simpa using h2.1, fun o ho' k hk => ?_⟩
    rw [ho] at ho'; cases ho'
    simpa using List.all_eq_true.1 h2.2 k hk
  · rintro ⟨h1, h2, h3⟩
    have ho : ops[i]? = some ops[i] := by simp [h1]
    refine ⟨h1, ?_⟩
    simp only [ho, Option.map_some, Option.getD_some, Bool.and_eq_true, Bool.not_eq_true']
    exact ⟨by simpa using h2, List.all_eq_true.2 fun k hk => by simpa using h3 _ ho k hk⟩

def left (S : Array Bool) (n : Nat) : Nat := ((List.range n).filter fun i => !S.getD i false).length

theorem left_less {S : Array Bool} {n k : Nat} (hk : k < n) (hS : S.size = n) (h : S.getD k false = false) : left (S.setIfInBounds k true) n < left S n := by
  have hg : ∀ i, (S.setIfInBounds k true).getD i false = if i = k then true else S.getD i false := fun i => getD_set (by omega)
  unfold left
  rw [← List.countP_eq_length_filter, ← List.countP_eq_length_filter]
  have hle : ∀ l : List Nat, List.countP (fun i => !(S.setIfInBounds k true).getD i false) l ≤ List.countP (fun i => !S.getD i false) l := by
    intro l
    refine List.countP_mono_left fun i _ hi => ?_
    rw [hg] at hi
    split at hi
    · simp at hi
    · exact hi
  obtain ⟨l1, l2, hl⟩ := List.append_of_mem (List.mem_range.2 hk)
  rw [hl, List.countP_append, List.countP_append, List.countP_cons, List.countP_cons]
  have e1 : (!(S.setIfInBounds k true).getD k false) = false := by rw [hg]; simp
  have e2 : (!S.getD k false) = true := by rw [h]; rfl
  rw [e1, e2]
  have h1 := hle l1
  have h2 := hle l2
  simp only [Bool.false_eq_true, if_false, if_true]
  omega

theorem any_sound {ops : Array Oper} {B : Base} {K : Env → AHeap → Prop} {Q : Exit → Act → World → Prop} (hall : OkAll C ops) (hQ : ∀ a w, Fits C B K a w → Q .normal a w) :
    ∀ (fuel : Nat) (S : Array Bool) (V : List Nat) (E : Env) (H : AHeap) (im : Im) (a : Act) (w : World) (pl : Plan), left S ops.size ≤ fuel → Inv C ops B S V E H im a w → planOk ops C.mu pl V = true → vcP C ops pl E H K → wpAny C.P .any ops Q fuel S a w := by
  intro fuel
  induction fuel with
  | zero =>
    intro S V E H im a w pl hf hI hpl hvc
    have hall' : ∀ i, i < ops.size → S.getD i false = true := by
      intro i hi
      cases e : S.getD i false with
      | true => rfl
      | false =>
        have : i ∈ (List.range ops.size).filter fun i => !S.getD i false := List.mem_filter.2 ⟨List.mem_range.2 hi, by simp only [e]; rfl⟩
        have := List.length_pos_of_mem this
        unfold left at hf; omega
    refine ⟨?_, finish hI hpl hvc hall'⟩
    rw [List.eq_nil_iff_forall_not_mem]
    intro i hi
    obtain ⟨h1, h2, _⟩ := (ready_mem hI.ssz).1 hi
    rw [hall' i h1] at h2; cases h2
  | succ fuel ih =>
    intro S V E H im a w pl hf hI hpl hvc
    refine ⟨fun hr => ?_, fun k hk => ?_⟩
    · have hall' : ∀ n i, i < n → i < ops.size → S.getD i false = true := by
        intro n
        induction n with
        | zero => intro i hi; omega
        | succ n ihn =>
          intro i hi hlt
          by_cases h : i < n
          · exact ihn i h hlt
          · have hin : i = n := by omega
            subst hin
            cases e : S.getD i false with
            | true => rfl
            | false =>
              have : i ∈ Region.ready .any ops S := (ready_mem hI.ssz).2 ⟨hlt, e, fun o ho q hq => ihn q (hall.early i o ho q hq) (Nat.lt_trans (hall.early i o ho q hq) hlt)⟩
              rw [hr] at this; cases this
      exact finish hI hpl hvc fun i hi => hall' ops.size i hi hi
    · obtain ⟨h1, h2, h3⟩ := (ready_mem hI.ssz).1 hk
      have hless := left_less h1 hI.ssz h2
      have late : ∀ V E pl, Inv C ops B S V E H im a w → k ∈ V → planOk ops C.mu pl V = true → vcP C ops pl E H K → wpOp C.P ops Q k (wpAny C.P .any ops Q fuel (S.setIfInBounds k true)) a w := by
        intro V E pl hI hkV hpl hvc
        exact hI.late hall hkV h2 h3 fun im' a' w' hI' => ih _ V E H im' a' w' pl (by omega) hI' hpl hvc
      by_cases hkV : k ∈ V
      · exact late V E pl hI hkV hpl hvc
      · induction pl generalizing V E with
        | done =>
          simp only [planOk, List.all_eq_true, List.mem_range] at hpl
          exact absurd (by simpa using hpl k h1) hkV
        | val i rest ihp =>
          simp only [planOk, Bool.and_eq_true] at hpl
          obtain ⟨⟨hp1, hp2⟩, hp3⟩ := hpl
          obtain ⟨hi1, hi2, hi3⟩ := readyV_mem.1 (by simpa using hp1)
          obtain ⟨o, ho⟩ := hall.get i hi1
          have hpure : isPure C.mu o = true := by simpa [ho] using hp2
          obtain ⟨d, hd⟩ : ∃ d, o.dst = some d := by
            cases hd : o.dst with
            | none => simp [isPure, hd] at hpure
            | some d => exact ⟨d, rfl⟩
          simp only [vcP, ho, Option.toList] at hvc
          obtain ⟨v, hv, hN, hvc'⟩ := ops_one hpure hd hvc
          have hI' := hI.vstep hall ho hd hpure hv hN hi2 (hi3 o ho)
          by_cases hki : k ∈ i :: V
          · exact late (i :: V) _ rest hI' hki hp3 hvc'
          · exact ihp (i :: V) _ hI' hp3 hvc' hki
        | one i chk rest ihp =>
          simp only [planOk, Bool.and_eq_true, beq_iff_eq, Bool.not_eq_true'] at hpl
          obtain ⟨⟨⟨hp1, hp2⟩, hp3⟩, hp4⟩ := hpl
          have hkr : k ∈ readyV ops V := readyV_mem.2 ⟨h1, hkV, fun o ho q hq => hI.sub q (h3 o ho q hq)⟩
          rw [hp1] at hkr
          have hki : k = i := by simpa using hkr
          subst hki
          obtain ⟨o, ho⟩ := hall.get k h1
          simp only [vcP, ho, Option.toList] at hvc
          exact hI.both hall ho hkV (by simpa [ho] using hp2) (h3 o ho) hp3 hvc fun im' E' H' a' w' hI' hv' => ih _ (k :: V) E' H' im' a' w' rest (by omega) hI' hp4 hv'
        | two i ci ri j cj rj ihi ihj =>
          simp only [planOk, Bool.and_eq_true, beq_iff_eq, Bool.not_eq_true'] at hpl
          obtain ⟨⟨⟨⟨⟨⟨hp1, hp2⟩, hp2'⟩, hp3⟩, hp3'⟩, hp4⟩, hp4'⟩ := hpl
          have hkr : k ∈ readyV ops V := readyV_mem.2 ⟨h1, hkV, fun o ho q hq => hI.sub q (h3 o ho q hq)⟩
          rw [hp1] at hkr
          obtain ⟨o, ho⟩ := hall.get k h1
          rcases (by simpa using hkr : k = i ∨ k = j) with rfl | rfl
          · simp only [vcP, ho, Option.toList] at hvc
            exact hI.both hall ho hkV (by simpa [ho] using hp2) (h3 o ho) hp3 hvc.1 fun im' E' H' a' w' hI' hv' => ih _ (k :: V) E' H' im' a' w' ri (by omega) hI' hp4 hv'
          · have hv2 := hvc.2
            simp only [ho, Option.toList] at hv2
            exact hI.both hall ho hkV (by simpa [ho] using hp2') (h3 o ho) hp3' hv2 fun im' E' H' a' w' hI' hv' => ih _ (k :: V) E' H' im' a' w' rj (by omega) hI' hp4' hv'
  where
  finish {S : Array Bool} {V : List Nat} {E : Env} {H : AHeap} {im : Im} {a : Act} {w : World} {pl : Plan} (hI : Inv C ops B S V E H im a w) (hpl : planOk ops C.mu pl V = true) (hvc : vcP C ops pl E H K)
      (hall' : ∀ i, i < ops.size → S.getD i false = true) : Q .normal a w := by
    have nomem : ∀ i, i < ops.size → i ∉ V → False := fun i hi hn => hn (hI.sub i (hall' i hi))
    cases pl with
    | done =>
      refine hQ a w ⟨im, E, H, ⟨hI.st.ok, fun t => ?_, hI.st.glo, hI.st.defers, hI.st.size⟩, hvc⟩
      have := hI.st.env t
      rwa [mask_eq fun i hi hp => by simp [pend, hall' i hi] at hp] at this
    | val i rest =>
      simp only [planOk, Bool.and_eq_true] at hpl
      obtain ⟨h1, h2, _⟩ := readyV_mem.1 (by simpa using hpl.1.1)
      exact (nomem i h1 h2).elim
    | one i chk rest =>
      simp only [planOk, Bool.and_eq_true, beq_iff_eq] at hpl
      obtain ⟨h1, h2, _⟩ := readyV_mem.1 (show i ∈ readyV ops V by rw [hpl.1.1.1]; simp)
      exact (nomem i h1 h2).elim
    | two i ci ri j cj rj =>
      simp only [planOk, Bool.and_eq_true, beq_iff_eq] at hpl
      obtain ⟨h1, h2, _⟩ := readyV_mem.1 (show i ∈ readyV ops V by rw [hpl.1.1.1.1.1.1]; simp)
      exact (nomem i h1 h2).elim

/-- A region that draws its order: a plan that is checked, and what it asks. -/
theorem W_draw {id : Nat} {ops : Array Oper} {E : Env} {H : AHeap} {Q : Exit → Env → AHeap → Prop} (pl : Plan) (hm : C.P.follows .mixedOrders = true) (hok : opsOk ops C.mu = true) (hpl : planOk ops C.mu pl [] = true)
    (h : vcP C ops pl E H (Q .normal)) : W C (.region id ops true) E H Q := by
  intro B im a w hst
  have hS : ∀ i, (Array.replicate ops.size false).getD i false = false := by
    intro i
    simp only [Array.getD_eq_getD_getElem?, Array.getElem?_replicate]
    split <;> rfl
  refine wp_region_any hm (any_sound (opsOk_all hok) (fun a w hf => hf) ops.size _ [] E H im a _ pl ?_ ⟨⟨hst.ok.draw rfl rfl rfl rfl, fun t => ?_, hst.glo, hst.defers, hst.size⟩, by simp, fun i hi => ?_, fun i hi => (by cases hi), fun i hi => (by cases hi), fun i hi => ?_, fun i hi => (by cases hi)⟩ hpl h)
  · unfold left
    exact Nat.le_trans (List.length_filter_le _ _) (by simp)
  · have : mask ops [] (Array.replicate ops.size false) E t = E t := mask_eq fun i hi hp => by simp [pend] at hp
    rw [this]; exact hst.env t
  · rw [hS] at hi; cases hi
  · rw [hS] at hi; cases hi
end
end Go.Proofs.YtjhnabdcmfjeoaaGreatDoor.Ab
/- The conditions hold of more where they hold of less. Own work; a plain theory over any program. -/
set_option linter.unusedVariables false
set_option linter.unusedSimpArgs false
namespace Go.Proofs.YtjhnabdcmfjeoaaGreatDoor.Ab
open Go

theorem opVC_mono {C : Cx} {o : Oper} {E : Env} {H : AHeap} {K K' : Env → AHeap → Prop} (hk : ∀ E H, K E H → K' E H) (h : opVC C o E H K) : opVC C o E H K' := by
  obtain ⟨dst, op, ty, pos, after, guard⟩ := o
  cases op with
  | alloc t =>
    cases dst with
    | none => exact h.elim
    | some d => exact ⟨h.1, h.2.1, h.2.2.1, fun b => hk _ _ (h.2.2.2 b)⟩
  | box t x =>
    cases dst with
    | none => exact h.elim
    | some d =>
      obtain ⟨h1, h2, h3⟩ := h
      refine ⟨h1, h2, ?_⟩
      split
      · rename_i hm; rw [if_pos hm] at h3; intro b; exact hk _ _ (h3 b)
      · rename_i hm; rw [if_neg hm] at h3; exact hk _ _ h3
  | buildSlice t n ps =>
    simp only [opVC] at h ⊢
    split at h
    · obtain ⟨h1, h2, h3⟩ := h
      refine ⟨h1, h2, ?_⟩
      split
      · rename_i hm; rw [if_pos hm] at h3; intro q; exact hk _ _ (h3 q)
      · rename_i hm; rw [if_neg hm] at h3; exact hk _ _ h3
    · exact h.elim
  | store t p x =>
    simp only [opVC] at h ⊢
    split at h
    · split at h
      · obtain ⟨h1, h2, h3, h4, h5, h6, h7⟩ := h
        exact ⟨h1, h2, h3, h4, h5, h6, hk _ _ h7⟩
      · exact h.elim
    · exact h.elim
  | convert s t x =>
    simp only [opVC] at h ⊢
    split at h
    · exact ⟨h.1, hk _ _ h.2⟩
    · exact ⟨h.1, hk _ _ h.2⟩
    · exact h.elim
  | call c =>
    obtain ⟨callee, ⟨args⟩, ⟨tys⟩⟩ := c
    have ck : ∀ av H', callK C dst E K av H' → callK C dst E K' av H' := by
      intro av H' hh
      cases dst with
      | none => exact hk _ _ hh
      | some d => exact ⟨hh.1, hk _ _ hh.2⟩
    cases callee with
    | invoke r m => exact h.elim
    | builtin b =>
      simp only [opVC, callVC] at h ⊢
      split at h
      · rename_i hb
        rw [if_pos hb]
        split at h
        · unfold appendVC at h ⊢
          split at h
          · obtain ⟨h1, h2, h3, h4, h5⟩ := h
            refine ⟨h1, h2, h3, h4, ?_⟩
            split at h5
            · exact ⟨h5.1, h5.2.1, fun q => hk _ _ (h5.2.2 q)⟩
            · exact ⟨h5.1, h5.2.1, h5.2.2.1, fun q => hk _ _ (h5.2.2.2 q)⟩
            · exact h5.elim
          · exact h.elim
        · exact h.elim
      · rename_i hb
        rw [if_neg hb]
        split at h
        · exact ⟨h.1, hk _ _ h.2⟩
        · exact h.elim
    | value f =>
      simp only [opVC, callVC] at h ⊢
      split at h
      · exact ⟨h.1, h.2.1, h.2.2.1, h.2.2.2.mono fun av H' hh => ck av H' hh⟩
      · exact ⟨h.1, h.2.1, h.2.2.mono fun av H' hh => ck av H' hh⟩
      · exact h.elim
  | binOp op t x y yt =>
    simp only [opVC] at h ⊢
    cases dst with
    | none => exact h.elim
    | some d =>
      simp only at h ⊢
      split
      · rename_i hn
        rw [if_pos hn] at h
        unfold nilVC at h ⊢
        split at h
        · exact ⟨h.1, fun t ht => hk _ _ (h.2 t ht)⟩
        · split at h
          · exact ⟨h.1, hk _ _ h.2⟩
          · exact h.elim
      · rename_i hn
        rw [if_neg hn] at h
        split at h
        · exact ⟨h.1, hk _ _ h.2⟩
        · exact h.elim
  | makeMap t r =>
    simp only [opVC] at h ⊢
    split at h
    · exact ⟨h.1, fun b => hk _ _ (h.2 b)⟩
    · exact h.elim
  | lookup t x k comma =>
    simp only [opVC] at h ⊢
    split at h
    · exact ⟨h.1, hk _ _ h.2⟩
    · exact h.elim
  | mapUpdate t m k x =>
    simp only [opVC] at h ⊢
    obtain ⟨h0, h⟩ := h
    refine ⟨h0, ?_⟩
    unfold mapVC at h ⊢
    split at h
    · refine ⟨h.1, ?_⟩
      have h2 := h.2
      split at h2
      · exact ⟨h2.1, hk _ _ h2.2⟩
      · exact h2.elim
    · exact h.elim
  | range t x =>
    simp only [opVC] at h ⊢
    cases dst with
    | none => exact h.elim
    | some d =>
      simp only at h ⊢
      unfold rangeVC at h ⊢
      split at h
      · exact ⟨h.1, fun b => hk _ _ (h.2 b)⟩
      · exact h.elim
  | next it isStr =>
    simp only [opVC] at h ⊢
    cases dst with
    | none => exact h.elim
    | some d =>
      simp only at h ⊢
      refine ⟨h.1, ?_⟩
      have h2 := h.2
      unfold nextVC at h2 ⊢
      split at h2
      · split at h2
        · exact ⟨h2.1, h2.2.1, hk _ _ h2.2.2⟩
        · exact h2.elim
      · exact h2.elim
  | makeSlice t l c =>
    simp only [opVC] at h ⊢
    cases dst with
    | none => exact h.elim
    | some d =>
      simp only at h ⊢
      unfold makeVC at h ⊢
      split at h
      · exact ⟨h.1, h.2.1, h.2.2.1, h.2.2.2.1, h.2.2.2.2.1, h.2.2.2.2.2.1, h.2.2.2.2.2.2.1, fun q => hk _ _ (h.2.2.2.2.2.2.2 q)⟩
      · exact h.elim
  | _ =>
    simp only [opVC] at h ⊢
    split at h
    · exact ⟨h.1, hk _ _ h.2⟩
    · exact h.elim

theorem opsVC_mono1 {C : Cx} {ops : Array Oper} {o : Oper} {E : Env} {H : AHeap} {K K' : Env → AHeap → Prop} (hk : ∀ E H, K E H → K' E H) (h : opsVC C ops [o] E H K) : opsVC C ops [o] E H K' := by
  simp only [opsVC] at h ⊢
  split at h
  · exact opVC_mono hk h
  · split at h
    · split at h
      · exact ⟨fun hx => opVC_mono hk (h.1 hx), fun hx => ⟨(h.2 hx).1, hk _ _ (h.2 hx).2⟩⟩
      · exact ⟨h.1, hk _ _ h.2⟩
      · exact h.elim
    · exact h.elim
end Go.Proofs.YtjhnabdcmfjeoaaGreatDoor.Ab
/- What simp is told, and small helpers for contracts. Own work; a plain theory over any program. -/
set_option linter.unusedVariables false
set_option linter.unusedSimpArgs false
namespace Go.Proofs.YtjhnabdcmfjeoaaGreatDoor.Ab
open Go

/-- A function that has a body of its own. -/
def okFn (P : Program) (f : FuncId) : Prop := ((P.funcs[f]?).map fun fn => (fn.name == "runtime.NumGoroutine", fn.body.isSome)) = some (false, true)

section
variable (C : Cx) (ops : Array Oper) (rest : List Oper) (d : Nat) (E : Env) (H : AHeap) (K : Env → AHeap → Prop) (Q : Exit → Env → AHeap → Prop) (ty : TypeId) (pos : String) (after : Array Edge)

theorem o_call' (f : FuncId) (args : Array Operand) (tys : Array TypeId) : opsVC C ops (⟨some d, .call { callee := .value (.func f), args, argTypes := tys }, ty, pos, after, none⟩ :: rest) E H K =
    (okFn C.P f ∧ CallsA C.P C.gl f (args.toList.map (evA C.gl E)) H (contR C ops rest E K (some d))) := o_call ..
theorem o_call0' (f : FuncId) (args : Array Operand) (tys : Array TypeId) : opsVC C ops (⟨none, .call { callee := .value (.func f), args, argTypes := tys }, ty, pos, after, none⟩ :: rest) E H K =
    (okFn C.P f ∧ CallsA C.P C.gl f (args.toList.map (evA C.gl E)) H (contR C ops rest E K none)) := o_call0 ..
theorem callX_fn' (dst : Option Nat) (args : List AV) (f : FuncId) (fi ca : List AV) : callX C ops rest E H K dst args (.fn (.func f) fi ca) = (fi.length = 0 ∧ okFn C.P f ∧ CallsA C.P C.gl f (args ++ ca) H (contR C ops rest E K dst)) := rfl
theorem callX_s' (dst : Option Nat) (args : List AV) (f : FuncId) : callX C ops rest E H K dst args (.s (.func (.func f) #[] #[])) = (okFn C.P f ∧ CallsA C.P C.gl f args H (contR C ops rest E K dst)) := callX_s ..

theorem ob_tmp (op : BinOp) (t : TypeId) (x : Operand) (t' : Tmp) (yt : TypeId) : opsVC C ops (⟨some d, .binOp op t x (.tmp t') yt, ty, pos, after, none⟩ :: rest) E H K = stepV C ops rest d E H K (binA C.P op t (isConst x || false) (evA C.gl E x) (evA C.gl E (.tmp t'))) := o_binOp (hn := rfl) ..
theorem ob_int (op : BinOp) (t : TypeId) (x : Operand) (k : IntKind) (n : Int) (yt : TypeId) : opsVC C ops (⟨some d, .binOp op t x (.const (.int k n)) yt, ty, pos, after, none⟩ :: rest) E H K = stepV C ops rest d E H K (binA C.P op t (isConst x || true) (evA C.gl E x) (evA C.gl E (.const (.int k n)))) := o_binOp (hn := rfl) ..
theorem ob_str (op : BinOp) (t : TypeId) (x : Operand) (b : ByteArray) (yt : TypeId) : opsVC C ops (⟨some d, .binOp op t x (.const (.string b)) yt, ty, pos, after, none⟩ :: rest) E H K = stepV C ops rest d E H K (binA C.P op t (isConst x || true) (evA C.gl E x) (evA C.gl E (.const (.string b)))) := o_binOp (hn := rfl) ..
theorem ob_bool (op : BinOp) (t : TypeId) (x : Operand) (b : Bool) (yt : TypeId) : opsVC C ops (⟨some d, .binOp op t x (.const (.bool b)) yt, ty, pos, after, none⟩ :: rest) E H K = stepV C ops rest d E H K (binA C.P op t (isConst x || true) (evA C.gl E x) (evA C.gl E (.const (.bool b)))) := o_binOp (hn := rfl) ..
theorem ob_if (op : BinOp) (t : TypeId) (x : Operand)  (yt : TypeId) : opsVC C ops (⟨some d, .binOp op t x (.const .nilIface) yt, ty, pos, after, none⟩ :: rest) E H K = stepV C ops rest d E H K (binA C.P op t (isConst x || true) (evA C.gl E x) (evA C.gl E (.const .nilIface))) := o_binOp (hn := rfl) ..
theorem ob_ptr (op : BinOp) (t : TypeId) (x : Operand) (p : Option Addr) (yt : TypeId) : opsVC C ops (⟨some d, .binOp op t x (.const (.pointer p)) yt, ty, pos, after, none⟩ :: rest) E H K = stepV C ops rest d E H K (binA C.P op t (isConst x || true) (evA C.gl E x) (evA C.gl E (.const (.pointer p)))) := o_binOp (hn := rfl) ..
theorem ob_map (op : BinOp) (t : TypeId) (x : Operand) (p : Option Nat) (yt : TypeId) : opsVC C ops (⟨some d, .binOp op t x (.const (.map p)) yt, ty, pos, after, none⟩ :: rest) E H K = stepV C ops rest d E H K (binA C.P op t (isConst x || true) (evA C.gl E x) (evA C.gl E (.const (.map p)))) := o_binOp (hn := rfl) ..
theorem ob_func (op : BinOp) (t : TypeId) (x : Operand)  (yt : TypeId) : opsVC C ops (⟨some d, .binOp op t x (.const .nilFunc) yt, ty, pos, after, none⟩ :: rest) E H K = stepV C ops rest d E H K (binA C.P op t (isConst x || true) (evA C.gl E x) (evA C.gl E (.const .nilFunc))) := o_binOp (hn := rfl) ..
theorem ob_glob (op : BinOp) (t : TypeId) (x : Operand) (g : Nat) (yt : TypeId) : opsVC C ops (⟨some d, .binOp op t x (.global g) yt, ty, pos, after, none⟩ :: rest) E H K = stepV C ops rest d E H K (binA C.P op t (isConst x || false) (evA C.gl E x) (evA C.gl E (.global g))) := o_binOp (hn := rfl) ..

theorem ev_func (gl : Nat → AV) (E : Env) (f : FuncId) : evA gl E (.func f) = .s (.func (.func f) #[] #[]) := rfl

/-! operators by what they are given -/
section
variable (P : Program) (op : BinOp) (t : TypeId) (cc : Bool)
def intB (k k' : IntKind) (a b : Int) : Option AV := match op with
    | .shl => shiftA .shl k a b
    | .shr => shiftA .shr k a b
    | _ => if k = k' then intA op k a b else none
def boolB (k : TK) (a b : Bool) : Option AV := match k with | .bool => tobool op (decide (a = b)) | _ => none
def ifB (k : TK) (r : Option Bool) : Option AV := match k with | .iface => r.bind (tobool op) | _ => none
def nilB (r : Option Bool) : Option AV := r.bind (tobool op)
def aggB (b : Bool) (r : Option Bool) : Option AV := if b = true then r.bind (tobool op) else none
theorem binA_int (k k' : IntKind) (a b : Int) : binA P op t cc (.s (.int k a)) (.s (.int k' b)) = intB op k k' a b := rfl
theorem binA_str (a b : ByteArray) : binA P op t cc (.s (.string a)) (.s (.string b)) = strA op a.data.toList b.data.toList := rfl
theorem binA_bool (a b : Bool) : binA P op t cc (.s (.bool a)) (.s (.bool b)) = boolB op (tyI P t).kind a b := rfl
theorem binA_nn : binA P op t cc (.s .nilIface) (.s .nilIface) = ifB op (tyI P t).kind (ifaceEq cc .nilIface .nilIface) := by
  simp only [binA, ifB]; cases (tyI P t).kind <;> simp [nilEq]
theorem binA_in (u : TypeId) (v : Value) : binA P op t cc (.s (.iface u v)) (.s .nilIface) = ifB op (tyI P t).kind (some false) := by
  simp only [binA, ifB]; cases (tyI P t).kind <;> simp [nilEq, ifaceEq]
theorem binA_rp (cs : List AV) : binA P op t cc (.rp cs) (.s (.pointer none)) = nilB op (nilEq (tyI P t).kind (.rp cs) (.s (.pointer none))) := rfl
theorem binA_pp : binA P op t cc (.s (.pointer none)) (.s (.pointer none)) = nilB op (nilEq (tyI P t).kind (.s (.pointer none)) (.s (.pointer none))) := by
  simp only [binA, nilB]; cases (tyI P t).kind <;> simp [nilEq, ifaceEq]
theorem binA_ptr (l b o : Nat) : binA P op t cc (.ptr l b o) (.s (.pointer none)) = nilB op (nilEq (tyI P t).kind (.ptr l b o) (.s (.pointer none))) := rfl
theorem binA_agg (cs ds : List AV) : binA P op t cc (.agg cs) (.agg ds) = aggB op (plainStruct P t) (cellsEq (fkinds P t) cs ds) := rfl
end

/-! plans -/
def contP (pl : Plan) : Env → AHeap → Prop := fun E' H' => vcP C ops pl E' H' K
def contC (chk : List Nat) (pl : Plan) : Env → AHeap → Prop := fun E' H' => recheck C ops chk E' H' ∧ vcP C ops pl E' H' K
theorem contP_app (pl : Plan) : contP C ops K pl E H = vcP C ops pl E H K := rfl
theorem contC_app (chk : List Nat) (pl : Plan) : contC C ops K chk pl E H = (recheck C ops chk E H ∧ vcP C ops pl E H K) := rfl
theorem vcP_done : vcP C ops .done E H K = K E H := rfl
theorem vcP_val (i : Nat) (pl : Plan) : vcP C ops (.val i pl) E H K = opsVC C ops ((ops[i]?).toList) E H (contP C ops K pl) := rfl
theorem vcP_one (i : Nat) (chk : List Nat) (pl : Plan) : vcP C ops (.one i chk pl) E H K = opsVC C ops ((ops[i]?).toList) E H (contC C ops K chk pl) := rfl
theorem vcP_two (i : Nat) (ci : List Nat) (ri : Plan) (j : Nat) (cj : List Nat) (rj : Plan) : vcP C ops (.two i ci ri j cj rj) E H K = (opsVC C ops ((ops[i]?).toList) E H (contC C ops K ci ri) ∧ opsVC C ops ((ops[j]?).toList) E H (contC C ops K cj rj)) := rfl
end

attribute [simp ↓] vc_seq vc_region vc_ret vc_skip vc_cond vc_block vc_exit vc_loop vc_draw qSeq_normal qSeq_ret qSeq_exit qBlock_normal qBlock_ret qBlock_here qBlock_exit qThen_normal qThen_ret qThen_exit
  ops_nil o_move o_assign o_pick o_load o_nilCheck ob_tmp ob_int ob_str ob_bool ob_if ob_ptr ob_map ob_func ob_glob o_unOp o_convert o_mkiface o_makeFunc o_slice o_fieldAddr o_indexAddr o_index o_extract o_build o_len o_min o_alloc o_box o_bsl o_store o_append o_makeMap o_lookup o_mapUpdate o_range o_next o_makeSlice o_binNil o_call' o_call0' o_callx o_guard
  postA_ret postA_normal contP_app contC_app vcP_done vcP_val vcP_one vcP_two
attribute [simp] ev_func ev_tmp ev_const ev_global upd_same upd_other argE stepV_some stepV_none stepV_ite stepV_ite' condS_true condS_false condS_bool storeV_ptr storeB_box bslV_own bslV_lay bslV_ite boxV_own boxV_lay app1_slice appV_new appV_on
  ownIs_own callX_fn' callX_s' retV_some contR_some contR_none guardV_undef guardV_yes guardV_no guardV_any pickA loadA loadCs nilA intA binA_int binA_str binA_bool binA_nn binA_in binA_rp binA_pp binA_ptr binA_agg intB boolB ifB nilB aggB shiftA strA tobool ifaceEq isConst unA convA strToBytes sliceA boundA fieldAddrA indexAddrA indexA
  extractA lenA minA mkifaceA buildA fillA putCells bslA srcOf ownOf isStrV isSlice isStrK find erase nilV_lst nilV_s mapV_own mapW_some rangeV_str nextV_ptr nextW_iter makeV_int  nilEq eqOp lookupA foundA findMp findMpL TyI.agg TyI.ok AV.cells AV.ones AV.one Value.oneCell' resultsA resA recheck slotOf undefA cellsEq cellEq

/-- What is owned may be forgotten. -/
theorem W_drop {C : Cx} {c : Code} {E : Env} {H H0 : AHeap} {Q : Exit → Env → AHeap → Prop} (hs : H0.Sublist H) (h : W C c E H0 Q) : W C c E H Q :=
  fun B im a w hst => h B im a w ⟨hst.ok.sub hs, hst.env, hst.glo, hst.defers, hst.size⟩

/-- A loop; at a round's end what is owned may be forgotten. -/
theorem W_loopS {C : Cx} {c : Code} {E : Env} {H : AHeap} {Q : Exit → Env → AHeap → Prop} (I : Nat → Env → AHeap → Prop) (n : Nat) (h0 : ∃ H0, H0.Sublist H ∧ I n E H0)
    (round : ∀ n E H, I n E H → W C c E H (qThen (fun E' H' => ∃ m, m < n ∧ ∃ H0, H0.Sublist H' ∧ I m E' H0) Q)) : W C (.loop c) E H Q :=
  W_loop (fun n E H => ∃ H0, H0.Sublist H ∧ I n E H0) n h0 fun n E H ⟨H0, hs, hI⟩ => W_drop hs (round n E H0 hI)

/-- A list that is nil is one's own. -/
theorem W_nilOwn {C : Cx} {c : Code} {E : Env} {H : AHeap} {Q : Exit → Env → AHeap → Prop} (t : Nat) (T : TypeId) (sz L : Nat) (hE : E t = .s (.slice none 0 0)) (h : W C c (upd E t (.lst sz [] (some (L, .nil)))) ((L, .own T sz 0 .nil) :: H) Q) : W C c E H Q := by
  intro B im a w hst
  refine h B im a w ⟨hst.ok.add L (.own T sz 0 .nil) trivial (fun k hk => by cases hk), repE_upd_same hst.env ?_, hst.glo, hst.defers, hst.size⟩
  have := hst.env t
  rw [hE] at this
  rw [sInv this]
  exact .lnil sz _ fun l b cap e => by cases e

/-! drawn regions along a list of steps; 'true': a step that is not pure -/
def planOf : List (Nat × Bool) → Plan
  | [] => .done
  | (i, false) :: l => .val i (planOf l)
  | (i, true) :: l => .one i [] (planOf l)

theorem opsVC_cons (C : Cx) (ops : Array Oper) (o : Oper) (rest : List Oper) (E : Env) (H : AHeap) (K : Env → AHeap → Prop) : opsVC C ops (o :: rest) E H K = opsVC C ops [o] E H (fun E' H' => opsVC C ops rest E' H' K) := rfl

theorem vcP_of {C : Cx} {ops : Array Oper} : ∀ (steps : List (Nat × Bool)) (E : Env) (H : AHeap) (K : Env → AHeap → Prop), (steps.all fun s => decide (s.1 < ops.size)) = true →
    opsVC C ops (steps.filterMap fun s => ops[s.1]?) E H K → vcP C ops (planOf steps) E H K
  | [], E, H, K, _, h => h
  | (i, b) :: l, E, H, K, ha, h => by
    simp only [List.all_cons, Bool.and_eq_true, decide_eq_true_eq] at ha
    have hg : ops[i]? = some ops[i] := by simp [ha.1]
    rw [List.filterMap_cons] at h
    simp only [hg] at h
    rw [opsVC_cons] at h
    cases b with
    | false =>
      show opsVC C ops ((ops[i]?).toList) E H (fun E' H' => vcP C ops (planOf l) E' H' K)
      rw [hg]
      exact opsVC_mono1 (fun E H h => vcP_of l E H K ha.2 h) h
    | true =>
      show opsVC C ops ((ops[i]?).toList) E H (fun E' H' => True ∧ vcP C ops (planOf l) E' H' K)
      rw [hg]
      exact opsVC_mono1 (fun E H h => ⟨trivial, vcP_of l E H K ha.2 h⟩) h

theorem W_steps {C : Cx} {id : Nat} {ops : Array Oper} {E : Env} {H : AHeap} {Q : Exit → Env → AHeap → Prop} (steps : List (Nat × Bool)) (hm : C.P.follows .mixedOrders = true) (hok : opsOk ops C.mu = true) (hpl : planOk ops C.mu (planOf steps) [] = true)
    (hin : (steps.all fun s => decide (s.1 < ops.size)) = true) (h : opsVC C ops (steps.filterMap fun s => ops[s.1]?) E H (Q .normal)) : W C (.region id ops true) E H Q :=
  W_draw (planOf steps) hm hok hpl (vcP_of steps E H _ hin h)

def stepsAll (n : Nat) : List (Nat × Bool) := (List.range n).map fun i => (i, false)
theorem steps_all (l : List Oper) : ∀ k (ops : Array Oper), ops.toList.drop k = l → ((List.range' k l.length).map fun i => (i, false)).filterMap (fun s : Nat × Bool => ops[s.1]?) = l := by
  induction l with
  | nil => intro k ops _; rfl
  | cons o l ih =>
    intro k ops h
    have hk : ops[k]? = some o := by rw [← Array.getElem?_toList, ← List.head?_drop, h]; rfl
    rw [List.length_cons, List.range'_succ, List.map_cons, List.filterMap_cons]
    simp only [hk]
    rw [ih (k + 1) ops (by rw [← List.drop_drop, h]; rfl)]
/-- Where all operations are pure and in order. -/
theorem W_all {C : Cx} {id : Nat} {ops : Array Oper} {E : Env} {H : AHeap} {Q : Exit → Env → AHeap → Prop} (n : Nat) (hn : ops.size = n) (hm : C.P.follows .mixedOrders = true) (hok : opsOk ops C.mu = true) (hpl : planOk ops C.mu (planOf (stepsAll n)) [] = true)
    (h : opsVC C ops ops.toList E H (Q .normal)) : W C (.region id ops true) E H Q := by
  refine W_steps (stepsAll n) hm hok hpl ?_ ?_
  · subst hn
    simp [stepsAll]
  · have := steps_all ops.toList 0 ops (by simp)
    rw [← List.range_eq_range'] at this
    rw [stepsAll, ← hn, ← Array.length_toList, this]
    exact h

/-- A function that hands back a value and nothing that is owned. -/
def PureA (P : Program) (gl : Nat → AV) (f : FuncId) (args : List AV) (v : AV) : Prop := CallsA P gl f args [] fun av H' => av = v ∧ H' = []

/-- Whatever heap stands beside it. -/
theorem CallsA.beside {P : Program} {gl : Nat → AV} {f : FuncId} {args : List AV} {H : AHeap} {R : AV → AHeap → Prop} (h : CallsA P gl f args [] R) : CallsA P gl f args H fun av H' => ∃ H1, H' = H1 ++ H ∧ R av H1 :=
  h.frame (by simp)

theorem PureA.use {P : Program} {gl : Nat → AV} {f : FuncId} {args : List AV} {v : AV} (h : PureA P gl f args v) {H : AHeap} {R : AV → AHeap → Prop} (hR : R v H) : CallsA P gl f args H R :=
  h.beside.mono fun av H' ⟨H1, e, e1, e2⟩ => by subst e e1 e2; exact hR

/-- What is owned at the end is let go. -/
theorem CallsA.letgo {P : Program} {gl : Nat → AV} {f : FuncId} {args : List AV} {H : AHeap} {v : AV} (h : CallsA P gl f args H fun av _ => av = v) : CallsA P gl f args H fun av H' => av = v ∧ H' = [] := by
  intro im w vs h1 h2 h3
  refine (h im w vs h1 h2 h3).mono ?_
  rintro e w' ⟨u, im', av, H', he, hok, hr, hv⟩
  exact ⟨u, im', av, [], he, hok.sub (List.nil_sublist _), hr, hv, rfl⟩

/-- What is handed back may be told with less: R' tells what a value that reads as 'av' reads as. -/
theorem CallsA.view {P : Program} {gl : Nat → AV} {f : FuncId} {args : List AV} {H : AHeap} {R R' : AV → AHeap → Prop} (h : CallsA P gl f args H R)
    (hv : ∀ (im : Im) (w : World) (B : Base) (av : AV) (H' : AHeap) (v : Value), Ok B im w H' → Rep im av v → R av H' → ∃ im' av' H'', Ok B im' w H'' ∧ Rep im' av' v ∧ R' av' H'') : CallsA P gl f args H R' := by
  intro im w vs h1 h2 h3
  refine (h im w vs h1 h2 h3).mono ?_
  rintro e w' ⟨u, im', av, H', he, hok, hr, hR⟩
  obtain ⟨im2, av2, H2, k1, k2, k3⟩ := hv im' w' _ av H' u hok hr hR
  exact ⟨u, im2, av2, H2, he, k1, k2, k3⟩

/-- Weaker arguments. -/
theorem RepL.cons {im : Im} {a : AV} {args : List AV} {v : Value} {vs : List Value} (h : Rep im a v) (r : RepL im args vs) : RepL im (a :: args) (v :: vs) :=
  ⟨by simp [r.1], fun i c u hi hu => by
    cases i with
    | zero => simp at hi hu; subst hi hu; exact h
    | succ i => exact r.2 i c u (by simpa using hi) (by simpa using hu)⟩
end Go.Proofs.YtjhnabdcmfjeoaaGreatDoor.Ab
/- The heap in another order: owned things picked by their labels; calls that take one of them. Own work; a plain theory over any program. -/
set_option linter.unusedVariables false
set_option linter.unusedSimpArgs false
namespace Go.Proofs.YtjhnabdcmfjeoaaGreatDoor.Ab
open Go

/-- The things of these labels, in this order. -/
def pickL : List Nat → AHeap → AHeap
  | [], _ => []
  | l :: ls, H => match find l H with
    | some r => (l, r) :: pickL ls H
    | none => pickL ls H

theorem find_skip {l l' : Nat} {r : Res} (hne : l' ≠ l) : ∀ (L R : AHeap), find l' (L ++ (l, r) :: R) = find l' (L ++ R)
  | [], R => by simp [find, Ne.symm hne]
  | x :: L, R => by simp only [List.cons_append, find]; rw [find_skip hne L R]

theorem pickL_skip {l : Nat} {r : Res} (L R : AHeap) : ∀ (ls : List Nat), l ∉ ls → pickL ls (L ++ (l, r) :: R) = pickL ls (L ++ R)
  | [], _ => rfl
  | k :: ls, h => by
    simp only [pickL]
    rw [find_skip (fun e => h (by simp [e])), pickL_skip L R ls (fun hm => h (by simp [hm]))]

theorem pickL_sub : ∀ (ls : List Nat) (H : AHeap), ls.Nodup → ∃ H1, H.Perm H1 ∧ (pickL ls H).Sublist H1
  | [], H, _ => ⟨H, List.Perm.refl _, List.nil_sublist _⟩
  | l :: ls, H, hn => by
    rw [List.nodup_cons] at hn
    simp only [pickL]
    cases hf : find l H with
    | none => exact pickL_sub ls H hn.2
    | some r =>
      obtain ⟨L, R, rfl, _⟩ := find_split hf
      obtain ⟨H1, hp, hs⟩ := pickL_sub ls (L ++ R) hn.2
      refine ⟨(l, r) :: H1, List.perm_middle.trans (hp.cons _), ?_⟩
      simp only
      rw [pickL_skip L R ls hn.1]
      exact hs.cons_cons _

theorem Ok.pick {B : Base} {im : Im} {w : World} {H : AHeap} (h : Ok B im w H) (ls : List Nat) (hn : ls.Nodup) : Ok B im w (pickL ls H) := by
  obtain ⟨H1, hp, hs⟩ := pickL_sub ls H hn
  exact (h.perm hp).sub hs

theorem W_pick {C : Cx} {c : Code} {E : Env} {H : AHeap} {Q : Exit → Env → AHeap → Prop} (ls : List Nat) (hn : ls.Nodup) (h : W C c E (pickL ls H) Q) : W C c E H Q :=
  fun B im a w hst => h B im a w ⟨hst.ok.pick ls hn, hst.env, hst.glo, hst.defers, hst.size⟩

/-- A loop whose rounds find the owned things in this order; others are forgotten. -/
theorem W_loopN {C : Cx} {c : Code} {E : Env} {H : AHeap} {Q : Exit → Env → AHeap → Prop} (ls : List Nat) (hn : ls.Nodup) (I : Nat → Env → AHeap → Prop) (n : Nat) (h0 : I n E (pickL ls H))
    (round : ∀ n E H, I n E H → W C c E H (qThen (fun E' H' => ∃ m, m < n ∧ I m E' (pickL ls H')) Q)) : W C (.loop c) E H Q :=
  W_loop (fun n E H => I n E (pickL ls H)) n h0 fun n E H hI => W_pick ls hn (round n E _ hI)

/-- The call takes the thing of a label. -/
theorem CallsA.frameF {P : Program} {gl : Nat → AV} {f : FuncId} {args : List AV} {l : Nat} {r : Res} {H : AHeap} {R : AV → AHeap → Prop} (h : CallsA P gl f args [(l, r)] R) (hf : find l H = some r) :
    CallsA P gl f args H fun av H' => ∃ H1, H' = H1 ++ erase l H ∧ R av H1 := by
  intro im w vs h1 h2 h3
  obtain ⟨L, Rr, hH, hs⟩ := find_split hf
  have hp : H.Perm ([(l, r)] ++ (L ++ Rr)) := by rw [hH]; exact List.perm_middle
  refine (h.frame hp im w vs h1 h2 h3).mono ?_
  rintro e w' ⟨v, im', av, H', he, hok, hrep, H1, rfl, hR⟩
  exact ⟨v, im', av, H1 ++ erase l H, he, hok.sub ((List.Sublist.refl _).append hs), hrep, H1, rfl, hR⟩

/-- The call takes the things of labels. -/
theorem CallsA.pick {P : Program} {gl : Nat → AV} {f : FuncId} {args : List AV} {H : AHeap} {R : AV → AHeap → Prop} (ls : List Nat) (hn : ls.Nodup) (h : CallsA P gl f args (pickL ls H) R) : CallsA P gl f args H R := by
  intro im w vs h1 h2 h3
  obtain ⟨H1, hp, hs⟩ := pickL_sub ls H hn
  have h2' := h2.pick ls hn
  have hk : ∀ b, b ∈ keys (pickL ls H) → b ∈ keys H := fun b hb => (List.Perm.filterMap _ hp).mem_iff.2 ((List.Sublist.filterMap _ hs).subset hb)
  refine (h im w vs h1 (Ok.refl (B := here im w H) h2') h3).mono ?_
  rintro e w' ⟨v, im', av, H', he, hok, hrep, hR⟩
  refine ⟨v, im', av, H', he, ⟨hok.os, hok.tape, hok.output, hok.size, fun b hb hn => hok.frame b hb fun hm => hn (hk b hm), hok.le, hok.imr, hok.own, fun k hk' => ?_, hok.nodup⟩, hrep, hR⟩
  rcases hok.fresh k hk' with h | h
  · exact .inl (hk k h)
  · exact .inr h

def pickC (l : Nat) (r : Option Res) (H : AHeap) : AHeap := match r with
  | some r => (l, r) :: H
  | none => H
@[simp] theorem pickC_some (l : Nat) (r : Res) (H : AHeap) : pickC l (some r) H = (l, r) :: H := rfl
@[simp] theorem pickC_none (l : Nat) (H : AHeap) : pickC l none H = H := rfl
@[simp] theorem pickL_nil (H : AHeap) : pickL [] H = [] := rfl
@[simp] theorem pickL_cons (l : Nat) (ls : List Nat) (H : AHeap) : pickL (l :: ls) H = pickC l (find l H) (pickL ls H) := by
  simp only [pickL, pickC]

theorem guardV_undef' (C : Cx) (ops : Array Oper) (rest : List Oper) (E : Env) (H : AHeap) (K : Env → AHeap → Prop) (o : Oper) (d g : Nat) (want : Bool) : guardV C ops rest E H K o d g want (.s undef) = (d < C.N ∧ opsVC C ops rest (upd E d (.s undef)) H K) := rfl
attribute [simp] guardV_undef'
end Go.Proofs.YtjhnabdcmfjeoaaGreatDoor.Ab
/- Drawn regions in chunks: straight lists up to each step that changes what is owned. Own work; a plain theory over any program. -/
set_option linter.unusedVariables false
set_option linter.unusedSimpArgs false
namespace Go.Proofs.YtjhnabdcmfjeoaaGreatDoor.Ab
open Go

def valsThen (l : List Nat) (p : Plan) : Plan := l.foldr (fun i p => .val i p) p
/-- Chunks: pure steps, one that is not, the loads to be read again behind it; at last pure steps. -/
def planS : List (List Nat × Nat × List Nat) → List Nat → Plan
  | [], l => valsThen l .done
  | (l, i, chk) :: r, last => valsThen l (.one i chk (planS r last))

def pickO (ops : Array Oper) (l : List Nat) : List Oper := l.filterMap fun i => ops[i]?
def inO (ops : Array Oper) (l : List Nat) : Bool := l.all fun i => decide (i < ops.size)

def vcS (C : Cx) (ops : Array Oper) : List (List Nat × Nat × List Nat) → List Nat → Env → AHeap → (Env → AHeap → Prop) → Prop
  | [], l, E, H, K => opsVC C ops (pickO ops l) E H K
  | (l, i, chk) :: r, last, E, H, K => opsVC C ops (pickO ops (l ++ [i])) E H fun E' H' => recheck C ops chk E' H' ∧ vcS C ops r last E' H' K

def inS (ops : Array Oper) : List (List Nat × Nat × List Nat) → List Nat → Bool
  | [], l => inO ops l
  | (l, i, _) :: r, last => inO ops (l ++ [i]) && inS ops r last

section
variable {C : Cx} {ops : Array Oper}

theorem opsVC_snoc : ∀ (l : List Oper) (o : Oper) (E : Env) (H : AHeap) (K : Env → AHeap → Prop), opsVC C ops (l ++ [o]) E H K → opsVC C ops l E H fun E' H' => opsVC C ops [o] E' H' K
  | [], o, E, H, K, h => h
  | x :: l, o, E, H, K, h => by
    rw [List.cons_append, opsVC_cons] at h
    rw [opsVC_cons]
    exact opsVC_mono1 (fun E H h => opsVC_snoc l o E H K h) h

theorem vcP_vals {p : Plan} {K : Env → AHeap → Prop} : ∀ (l : List Nat) (E : Env) (H : AHeap), inO ops l = true → opsVC C ops (pickO ops l) E H (fun E' H' => vcP C ops p E' H' K) → vcP C ops (valsThen l p) E H K
  | [], E, H, _, h => h
  | i :: l, E, H, ha, h => by
    simp only [inO, List.all_cons, Bool.and_eq_true, decide_eq_true_eq] at ha
    have hg : ops[i]? = some ops[i] := by simp [ha.1]
    simp only [pickO, List.filterMap_cons, hg] at h
    rw [opsVC_cons] at h
    show opsVC C ops ((ops[i]?).toList) E H fun E' H' => vcP C ops (valsThen l p) E' H' K
    rw [hg]
    exact opsVC_mono1 (fun E H h => vcP_vals l E H ha.2 h) h

theorem opsVC_mono : ∀ (l : List Oper) {E : Env} {H : AHeap} {K K' : Env → AHeap → Prop}, (∀ E H, K E H → K' E H) → opsVC C ops l E H K → opsVC C ops l E H K'
  | [], E, H, K, K', hk, h => hk E H h
  | o :: l, E, H, K, K', hk, h => by
    rw [opsVC_cons] at h ⊢
    exact opsVC_mono1 (fun E H h => opsVC_mono l hk h) h

theorem vcP_S {K : Env → AHeap → Prop} (last : List Nat) : ∀ (r : List (List Nat × Nat × List Nat)) (E : Env) (H : AHeap), inS ops r last = true → vcS C ops r last E H K → vcP C ops (planS r last) E H K
  | [], E, H, hi, h => vcP_vals last E H hi (opsVC_mono _ (fun E H h => h) h)
  | (l, i, chk) :: r, E, H, hi, h => by
    simp only [inS, inO, List.all_append, Bool.and_eq_true, List.all_cons, List.all_nil, Bool.and_true, decide_eq_true_eq] at hi
    obtain ⟨⟨h1, h2⟩, h3⟩ := hi
    have hg : ops[i]? = some ops[i] := by simp [h2]
    refine vcP_vals l E H (by simpa [inO] using h1) ?_
    simp only [vcS, pickO, List.filterMap_append, List.filterMap_cons, hg, List.filterMap_nil] at h
    refine opsVC_mono _ (fun E' H' h' => ?_) (opsVC_snoc _ _ _ _ _ h)
    show opsVC C ops ((ops[i]?).toList) E' H' fun E' H' => recheck C ops chk E' H' ∧ vcP C ops (planS r last) E' H' K
    rw [hg]
    exact opsVC_mono1 (fun E H h => ⟨h.1, vcP_S last r E H h3 h.2⟩) h'

theorem W_chunks {id : Nat} {E : Env} {H : AHeap} {Q : Exit → Env → AHeap → Prop} (r : List (List Nat × Nat × List Nat)) (last : List Nat) (hm : C.P.follows .mixedOrders = true) (hok : opsOk ops C.mu = true) (hpl : planOk ops C.mu (planS r last) [] = true)
    (hin : inS ops r last = true) (h : vcS C ops r last E H (Q .normal)) : W C (.region id ops true) E H Q :=
  W_draw (planS r last) hm hok hpl (vcP_S last r E H hin h)
end

section
variable (C : Cx) (ops : Array Oper) (E : Env) (H : AHeap) (K : Env → AHeap → Prop)
/-- What follows behind a chunk. -/
def contS (chk : List Nat) (r : List (List Nat × Nat × List Nat)) (last : List Nat) : Env → AHeap → Prop := fun E' H' => recheck C ops chk E' H' ∧ vcS C ops r last E' H' K
theorem contS_app (chk : List Nat) (r : List (List Nat × Nat × List Nat)) (last : List Nat) : contS C ops K chk r last E H = (recheck C ops chk E H ∧ vcS C ops r last E H K) := rfl
theorem vcS_nil (l : List Nat) : vcS C ops [] l E H K = opsVC C ops (pickO ops l) E H K := rfl
theorem vcS_cons (l : List Nat) (i : Nat) (chk : List Nat) (r : List (List Nat × Nat × List Nat)) (last : List Nat) : vcS C ops ((l, i, chk) :: r) last E H K = opsVC C ops (pickO ops (l ++ [i])) E H (contS C ops K chk r last) := rfl
end
attribute [simp ↓] contS_app vcS_nil vcS_cons
attribute [simp] pickO
end Go.Proofs.YtjhnabdcmfjeoaaGreatDoor.Ab
