/- The conditions suffice. Own work; a plain theory over any program. -/
import Derived.Test.YtjhnabdcmfjeoaaGreatDoorYB
set_option linter.unusedVariables false
set_option linter.unusedSimpArgs false
namespace Go.Proofs.YtjhnabdcmfjeoaaGreatDoor.Ab
open Go

theorem find_split {l : Nat} : ∀ {H : AHeap} {r : Res}, find l H = some r → ∃ L R, H = L ++ (l, r) :: R ∧ (erase l H).Sublist (L ++ R)
  | [], r, h => by cases h
  | x :: H, r, h => by
    simp only [find] at h
    split at h
    · rename_i e
      cases h
      refine ⟨[], H, by subst e; rfl, ?_⟩
      simp only [erase, List.filter_cons]
      have : (x.1 == l) = true := by simp [e]
      simp only [this, Bool.not_true, Bool.false_eq_true, if_false, List.nil_append]
      exact List.filter_sublist
    · obtain ⟨L, R, h1, h2⟩ := find_split h
      refine ⟨x :: L, R, by rw [h1]; rfl, ?_⟩
      simp only [erase, List.filter_cons] at h2 ⊢
      split
      · exact List.Sublist.cons_cons _ h2
      · exact List.Sublist.cons _ h2

theorem findMpL_split {b : Nat} : ∀ {H : AHeap} {l : Nat} {es : List (Value × AV)}, findMpL b H = some (l, es) → ∃ L R, H = L ++ (l, .mp b es) :: R ∧ (erase l H).Sublist (L ++ R)
  | [], _, _, h => by cases h
  | (l', r) :: H, l, es, h => by
    have step : findMpL b H = some (l, es) → ∃ L R, (l', r) :: H = L ++ (l, .mp b es) :: R ∧ (erase l ((l', r) :: H)).Sublist (L ++ R) := fun h => by
      obtain ⟨L, R, rfl, hs⟩ := findMpL_split h
      refine ⟨(l', r) :: L, R, rfl, ?_⟩
      simp only [erase, List.filter_cons]
      split
      · exact hs.cons_cons _
      · exact hs.cons _
    cases r with
    | mp b' es' =>
      simp only [findMpL] at h
      split at h
      · rename_i e; cases h; subst e
        refine ⟨[], H, rfl, ?_⟩
        simp only [erase, List.filter_cons, beq_self_eq_true, Bool.not_true, Bool.false_eq_true, if_false, List.nil_append]
        exact List.filter_sublist
      · exact step h
    | _ => exact step h

theorem erase_sub (l : Nat) (H : AHeap) : (erase l H).Sublist H := List.filter_sublist

theorem Ok.take {B : Base} {im : Im} {w : World} {H : AHeap} {l : Nat} {r : Res} (h : Ok B im w H) (hf : find l H = some r) : ∃ F, Ok B im w ([(l, r)] ++ F) ∧ (erase l H).Sublist F := by
  obtain ⟨L, R, rfl, h2⟩ := find_split hf
  exact ⟨L ++ R, h.perm (List.perm_middle), h2⟩

section
variable {C : Cx} {B : Base} {im : Im} {E : Env} {H : AHeap} {a : Act} {w : World}

theorem fits_put (h : St C B im E H a w) {im' : Im} {w' : World} {H' : AHeap} {K : Env → AHeap → Prop} {d : Nat} {av : AV} {v : Value} (hok : Ok B im' w' H') (hle : Le im im') (hv : Rep im' av v) (hd : d < C.N)
    (hK : K (upd E d av) H') : Fits C B K (a.put (some d) v) w' :=
  ⟨im', upd E d av, H', ⟨hok, (h.env.mono hle).put (by rw [h.size]; exact hd) hv, h.glo.mono hle, by rw [defers_put]; exact h.defers, by rw [size_put]; exact h.size⟩, hK⟩

theorem upon_value {o : Oper} {v : Value} {w' : World} {next : Act → World → Prop} {Q : Exit → Act → World → Prop} (hr : (execOp a.eval o).run C.P w = .ok (.value v) w') (hn : next (a.put o.dst v) w') : o.wp C.P a w next Q := by
  unfold Oper.wp; rw [hr]; exact hn
theorem upon_skip {o : Oper} {w' : World} {next : Act → World → Prop} {Q : Exit → Act → World → Prop} (hr : (execOp a.eval o).run C.P w = .ok .skip w') (hn : next (a.put o.dst undef) w') : o.wp C.P a w next Q := by
  unfold Oper.wp; rw [hr]; exact hn

theorem val_sound {o : Oper} {K : Env → AHeap → Prop} {Q : Exit → Act → World → Prop} {d : Nat} {v : AV} (h : St C B im E H a w) (hd : o.dst = some d) (hv : opVal C.P C.gl E H o.op = some v) (hN : d < C.N) (hK : K (upd E d v) H) :
    o.wp C.P a w (Fits C B K) Q := by
  obtain ⟨u, hr, hu⟩ := opVal_sound hv h.env h.glo h.ok.imr h.ok.own
  refine upon_value hr ?_
  rw [hd]
  exact fits_put h h.ok (Le.refl _) hu hN hK

theorem goes_sound {o : Oper} {x : Sem Value} {H1 F : AHeap} {R : AV → AHeap → Prop} {K : Env → AHeap → Prop} {Q : Exit → Act → World → Prop} {d : Nat} (h : St C B im E H a w) (hd : o.dst = some d) (hN : d < C.N)
    (hx : execOp a.eval o = (do pure (.value (← x)))) (hg : Goes C.P im w H1 x R) (hH : Ok B im w (H1 ++ F)) (hK : ∀ av H', R av H' → ∃ H2, H2.Sublist (H' ++ F) ∧ K (upd E d av) H2) : o.wp C.P a w (Fits C B K) Q := by
  obtain ⟨v, im', w', av, H', hr, hok, hv, hR⟩ := hg
  obtain ⟨H2, hs, hk⟩ := hK av H' hR
  refine upon_value (v := v) (w' := w') (by rw [hx]; simp [hr]) ?_
  rw [hd]
  exact fits_put h ((hH.step hok).sub hs) hok.le hv hN hk

theorem lays_sound {o : Oper} {x : Sem Value} {av : AV} {K : Env → AHeap → Prop} {Q : Exit → Act → World → Prop} {d : Nat} (h : St C B im E H a w) (hd : o.dst = some d) (hN : d < C.N)
    (hx : execOp a.eval o = (do pure (.value (← x)))) (hg : Lays C.P im w x av) (hK : K (upd E d av) H) : o.wp C.P a w (Fits C B K) Q := by
  obtain ⟨v, im', w', hr, hok, hv⟩ := hg
  refine upon_value (v := v) (w' := w') (by rw [hx]; simp [hr]) ?_
  rw [hd]
  exact fits_put h (by simpa using h.ok.stepNone hok) hok.le hv hN hK

theorem ev (h : St C B im E H a w) (x : Operand) : Rep im (evA C.gl E x) (a.eval x) := rep_ev h.env h.glo x

theorem repL_map (h : St C B im E H a w) (xs : List Operand) : RepL im (xs.map (evA C.gl E)) (xs.map a.eval) := by
  refine ⟨by simp, fun i c v hi hv => ?_⟩
  simp only [List.getElem?_map, Option.map_eq_some_iff] at hi hv
  obtain ⟨x, hx, rfl⟩ := hi
  obtain ⟨y, hy, rfl⟩ := hv
  rw [hx] at hy; cases hy
  exact ev h x

theorem append_sound {o : Oper} {K : Env → AHeap → Prop} {Q : Exit → Act → World → Prop} {d : Nat} {t tx : TypeId} {ox oy : Operand} (h : St C B im E H a w) (hd : o.dst = some d)
    (ho : o.op = .call { callee := .builtin .append, args := #[ox, oy], argTypes := #[t, tx] }) (hv : appendVC C d t tx (evA C.gl E ox) (evA C.gl E oy) E H K) : o.wp C.P a w (Fits C B K) Q := by
  unfold appendVC at hv
  split at hv
  · rename_i e hk
    obtain ⟨hpos, hz0, hN, htx, hv⟩ := hv
    have hx := ev h ox
    have hy := ev h oy
    have hexec : execOp a.eval o = (do pure (.value (← Builtin.append_ #[t, tx] o.type #[a.eval ox, a.eval oy]))) := by simp [execOp, ho, resolve, invoke, builtin]
    split at hv
    · rename_i ys hys hox
      obtain ⟨hb1, hb2, hK⟩ := hv
      obtain ⟨news, hs⟩ := srcOf_sound (P := C.P) (tx := tx) h.ok.imr htx hys hy
      have hxv : a.eval ox = .slice none 0 0 := by
        unfold ownOf at hox
        split at hox
        · rename_i hxe; rw [hxe] at hx; exact sInv hx
        · split at hox <;> cases hox
        · cases hox
      rw [hxv] at hexec
      refine goes_sound (H1 := []) (F := H) h hd hN hexec (append_nil h.ok.imr d hk rfl hpos hz0 hs hb1 hb2) h.ok ?_
      rintro av H' ⟨q, rfl, rfl⟩
      exact ⟨_, (erase_sub d H).cons_cons _, hK q⟩
    · rename_i ys l q es hys hox
      obtain ⟨hfind, hb1, hb2, hK⟩ := hv
      obtain ⟨news, hs⟩ := srcOf_sound (P := C.P) (tx := tx) h.ok.imr htx hys hy
      have hxe : evA C.gl E ox = .lst (tyI C.P e).size es (some (l, q)) := by
        unfold ownOf at hox
        split at hox
        · cases hox
        · rename_i hxe
          split at hox
          · rename_i hsz; cases hox; rw [hxe, hsz]
          · cases hox
        · cases hox
      rw [hxe] at hx
      split at hfind
      · rename_i e' sz' n' q' hf
        obtain ⟨rfl, rfl, rfl, rfl⟩ := hfind
        obtain ⟨F, hF, hsub⟩ := h.ok.take hf
        have hres : ResOk im w (.own e' (tyI C.P e').size es.length q') := hF.own (l, _) (by simp)
        cases q' with
        | nil =>
          have hes : es = [] ∧ a.eval ox = .slice none 0 0 := by
            generalize a.eval ox = u at hx
            cases hx with
            | lnil _ _ _ => exact ⟨rfl, rfl⟩
            | lst _ _ _ b off cap f ho hc hz hi hr => obtain ⟨h1, _⟩ := ho l _ rfl; cases h1
          obtain ⟨hes, hxv⟩ := hes
          subst hes
          rw [hxv] at hexec
          refine goes_sound (H1 := []) (F := H) h hd hN hexec (append_nil h.ok.imr d hk rfl hpos hz0 hs (by simpa using hb1) (by simpa using hb2)) h.ok ?_
          rintro av H' ⟨q, rfl, rfl⟩
          refine ⟨_, ((erase_sub d _).trans (erase_sub l H)).cons_cons _, ?_⟩
          simpa using hK q
        | tip g cap =>
          refine goes_sound h hd hN hexec (append_own h.ok.imr l d hk rfl hpos hz0 hs hx hres hb1 hb2) hF ?_
          rintro av H' ⟨q, rfl, rfl⟩
          exact ⟨_, ((erase_sub d _).trans hsub).cons_cons _, hK q⟩
      · exact hfind.elim
    · exact hv.elim
  · exact hv.elim

theorem run_callFunc {P : Program} {f : FuncId} (hf : ((P.funcs[f]?).map fun fn => (fn.name == "runtime.NumGoroutine", fn.body.isSome)) = some (false, true)) (args : Array Value) (w : World) : (callFunc f args).run P w = .ok (.enter f args) w := by
  cases e : P.funcs[f]? with
  | none => simp [e] at hf
  | some fn =>
    simp only [e, Option.map_some, Option.some.injEq, Prod.mk.injEq] at hf
    have hn : fn.body.isNone = false := by simpa using hf.2
    simp only [callFunc, Sem.run_bind, run_program, Result.andThen_ok, e, hf.1, Bool.false_eq_true, if_false, hn]
    rfl

theorem call_sound {o : Oper} {f : FuncId} {vs : List Value} {args : List AV} {R : AV → AHeap → Prop} {K : Env → AHeap → Prop} {Q : Exit → Act → World → Prop} (h : St C B im E H a w)
    (hx : (execOp a.eval o).run C.P w = .ok (.enter f vs.toArray) w) (hargs : RepL im args vs) (hc : CallsA C.P C.gl f args H R)
    (hK : ∀ av H', R av H' → match o.dst with | some d => d < C.N ∧ K (upd E d av) H' | none => K E H') : o.wp C.P a w (Fits C B K) Q := by
  unfold Oper.wp
  rw [hx]
  show Calls C.P f vs.toArray w _
  refine (hc im w vs hargs h.ok.refl h.glo).mono ?_
  rintro e w' ⟨v, im', av, H', rfl, hok, hv, hR⟩
  have hk := hK av H' hR
  have hok' : Ok B im' w' H' := by
    have := Ok.step (F := []) (by simpa using h.ok) hok
    simpa using this
  show Fits C B K (a.put o.dst v) w'
  cases hd : o.dst with
  | none =>
    rw [hd] at hk
    exact ⟨im', E, H', ⟨hok', h.env.mono hok.le, h.glo.mono hok.le, h.defers, h.size⟩, hk⟩
  | some d =>
    rw [hd] at hk
    exact fits_put h hok' hok.le hv hk.1 hk.2

theorem callVC_sound {o : Oper} {c : Call} {K : Env → AHeap → Prop} {Q : Exit → Act → World → Prop} (h : St C B im E H a w) (ho : o.op = .call c) (hv : callVC C o.dst c E H K) : o.wp C.P a w (Fits C B K) Q := by
  obtain ⟨callee, ⟨args⟩, ⟨tys⟩⟩ := c
  cases callee with
  | invoke r m => exact hv.elim
  | builtin b =>
    simp only [callVC] at hv
    split at hv
    · rename_i hb
      have hb' : b = .append := by cases b <;> simp_all [isAppend]
      subst hb'
      split at hv
      · rename_i d x y t tx hd
        exact append_sound h hd ho hv
      · exact hv.elim
    · split at hv
      · rename_i d v hd hval
        refine val_sound h hd ?_ hv.1 hv.2
        rw [ho]
        simp only [opVal, callVal]
        exact hval
      · exact hv.elim
  | value x =>
    have hx := ev h x
    simp only [callVC] at hv
    split at hv
    · rename_i f fi ca he
      obtain ⟨hfi, hca, hv⟩ := hv
      have hfi' : fi = #[] := Array.eq_empty_of_size_eq_zero hfi
      have hca' : ca = #[] := Array.eq_empty_of_size_eq_zero hca
      subst hfi' hca'
      rw [he] at hx
      refine call_sound h (vs := args.map a.eval) ?_ (repL_map h args) hv.2 fun _ _ h => h
      simp only [execOp, ho, Sem.run_bind, resolve, sInv hx, Deferred.ofValue, Sem.run_pure, Result.andThen_ok, invoke]
      have := run_callFunc hv.1 ((Array.map a.eval { toList := args }) ++ #[]) w
      simpa using this
    · rename_i f fi ca he
      obtain ⟨hfi, hv⟩ := hv
      rw [he] at hx
      generalize hu : a.eval x = u at hx
      cases hx with
      | fn _ _ _ fs cs h1 h2 h3 h4 =>
        have hfs : fs = #[] := Array.eq_empty_of_size_eq_zero (by rw [h1, hfi])
        subst hfs
        refine call_sound h (vs := args.map a.eval ++ cs.toList) ?_ ?_ hv.2 fun _ _ h => h
        · simp only [execOp, ho, Sem.run_bind, resolve, hu, Deferred.ofValue, Sem.run_pure, Result.andThen_ok, invoke]
          have := run_callFunc hv.1 ((Array.map a.eval { toList := args }) ++ cs) w
          have e : (args.map a.eval ++ cs.toList).toArray = (Array.map a.eval { toList := args }) ++ cs := by
            apply Array.ext'; simp
          rw [e]
          simpa using this
        · have hr := repL_map h args
          refine ⟨by simp [h2], fun i c v hi hv' => ?_⟩
          by_cases hlt : i < args.length
          · rw [List.getElem?_append_left (by simpa using hlt)] at hi hv'
            exact hr.2 i c v hi hv'
          · rw [List.getElem?_append_right (by simp; omega)] at hi hv'
            simp only [List.length_map] at hi hv'
            exact h4 _ c v hi (by simpa using hv')
    · exact hv.elim

theorem opVC_sound {o : Oper} {K : Env → AHeap → Prop} {Q : Exit → Act → World → Prop} (h : St C B im E H a w) (hv : opVC C o E H K) : o.wp C.P a w (Fits C B K) Q := by
  unfold opVC at hv
  split at hv
  · rename_i t ho
    split at hv
    · rename_i d hd
      obtain ⟨hN, h0, h1, hK⟩ := hv
      refine goes_sound (H1 := []) (F := H) h hd hN (x := Instr.alloc t true (.tuple #[])) (by simp [execOp, ho]) (alloc_goes h.ok.imr d h0 h1) h.ok ?_
      rintro av H' ⟨b, rfl, rfl⟩
      exact ⟨_, (erase_sub d H).cons_cons _, hK b⟩
    · exact hv.elim
  · rename_i t x ho
    split at hv
    · rename_i d hd
      obtain ⟨hN, h0, hK⟩ := hv
      split at hK
      · refine goes_sound (H1 := []) (F := H) h hd hN (x := Instr.box t (a.eval x)) (by simp [execOp, ho]) (box_goes h.ok.imr d h0 (ev h x)) h.ok ?_
        rintro av H' ⟨b, rfl, rfl⟩
        exact ⟨_, (erase_sub d H).cons_cons _, hK b⟩
      · exact lays_sound h hd hN (x := Instr.box t (a.eval x)) (by simp [execOp, ho]) (boxA_sound (by simp [boxA, h0]) (ev h x) h.ok.imr) hK
    · exact hv.elim
  · rename_i t n parts ho
    split at hv
    · rename_i d e es hd hbsl
      obtain ⟨hN, hm, hK⟩ := hv
      have hb := bsl_lays (P := C.P) (w := w) h.ok.imr hbsl (ps := parts.map fun (i, x) => (i, a.eval x)) (by simp) (fun i f av f' v hi hv => by
        simp only [List.getElem?_map, Array.getElem?_toList, Array.getElem?_map, Option.map_eq_some_iff, Prod.mk.injEq] at hi hv
        obtain ⟨p, hp, rfl, rfl⟩ := hi
        obtain ⟨q, hq, rfl, rfl⟩ := hv
        rw [hp] at hq; cases hq
        exact ev h _) d
      rcases hb with ⟨b, im', w', ⟨hr, hok, hrep, hlen⟩ | hno⟩
      · subst hlen
        have hexec : execOp a.eval o = (do pure (.value (← Instr.buildSlice t es.length (parts.map fun (i, x) => (i, a.eval x))))) := by simp [execOp, ho]
        split at hK
        · refine goes_sound (H1 := []) (F := H) h hd hN hexec (R := fun av H' => ∃ q, av = .lst (tyI C.P e).size es (some (d, q)) ∧ H' = [(d, .own e (tyI C.P e).size es.length q)]) ⟨_, im', w', _, _, hr, hok, hrep, _, rfl, rfl⟩ h.ok ?_
          rintro av H' ⟨q, rfl, rfl⟩
          exact ⟨_, (erase_sub d H).cons_cons _, hK q⟩
        · refine goes_sound (H1 := []) (F := H) h hd hN hexec (R := fun av H' => av = .lst (tyI C.P e).size es none ∧ H' = []) ⟨_, im', w', _, _, hr, hok.sub (List.nil_sublist _), hrep.drop, rfl, rfl⟩ h.ok ?_
          rintro av H' ⟨rfl, rfl⟩
          exact ⟨_, List.Sublist.refl _, hK⟩
      · exact absurd hm hno
    · exact hv.elim
  · rename_i t p x ho
    have hp := ev h p
    split at hv
    · rename_i l b off he
      rw [he] at hp
      split at hv
      · rename_i b' T cs hf
        obtain ⟨rfl, h1, h2, h3, h4, hd, hK⟩ := hv
        obtain ⟨F, hF, hsub⟩ := h.ok.take hf
        obtain ⟨w', hr, hok⟩ := store_goes (P := C.P) (l := l) (b := b') (T := T) h.ok.imr (hF.own (l, .box b' T cs) (by simp)) h1 (ev h x) h2 h3 h4
        have hpe : a.eval p = .pointer (some ⟨b', off, none⟩) := by generalize a.eval p = u at hp; cases hp; rfl
        refine upon_skip (w' := w') (by simp [execOp, ho, hpe, hr]) ?_
        rw [hd]
        exact ⟨im, E, _, ⟨(hF.step hok).sub (hsub.cons_cons _), h.env, h.glo, h.defers, h.size⟩, hK⟩
      · exact hv.elim
    · exact hv.elim
  · rename_i c ho
    exact callVC_sound h ho hv
  · rename_i s d x ho
    split at hv
    · rename_i k v hd hval
      exact val_sound h hd (by rw [ho]; exact hval) hv.1 hv.2
    · rename_i k v hd hval hs
      unfold strToBytes at hs
      split at hs
      · rename_i e b h1 h2 hx
        split at hs
        · rename_i h3
          split at hs
          · rename_i hc
            cases hs
            have hxv := ev h x
            rw [hx] at hxv
            have := sInv hxv
            exact lays_sound h hd hv.1 (x := convert s d (a.eval x)) (by simp [execOp, ho]) (by rw [this]; exact bytes_lays h.ok.imr h1 h2 h3 hc.1 hc.2) hv.2
          · cases hs
        · cases hs
      · cases hs
    · exact hv.elim
  · rename_i op t x y yt ho
    split at hv
    · rename_i d hd
      have usual : ∀ v, opVal C.P C.gl E H (.binOp op t x y yt) = some v → d < C.N ∧ K (upd E d v) H → o.wp C.P a w (Fits C B K) Q := fun v h1 h2 => val_sound h hd (by rw [ho]; exact h1) h2.1 h2.2
      split at hv
      · rename_i hn
        unfold nilVC at hv
        split at hv
        · rename_i e sz es own f hk hx hf
          have hy : a.eval y = .slice none 0 0 := by
            unfold isNilL at hn
            split at hn
            · rfl
            · cases hn
          have hxv := ev h x
          rw [hx] at hxv
          obtain ⟨p, n, c, hp, hpe⟩ : ∃ p n c, a.eval x = .slice p n c ∧ (p.isNone = true → es = []) := by
            generalize a.eval x = u at hxv
            cases hxv with
            | lnil => exact ⟨_, _, _, rfl, fun _ => rfl⟩
            | lz => exact ⟨_, _, _, rfl, fun _ => rfl⟩
            | lst => exact ⟨_, _, _, rfl, fun hh => by simp at hh⟩
          have heq : (Op.equal t (.slice p n c) (.slice none 0 0)).run C.P w = .ok p.isNone w := by
            rw [equal_at]; generalize 9999 = dd
            cases p <;> simp [Op.equalIn, run_underlying (u_slice hk)]
          refine upon_value (v := .bool (f p.isNone)) (w' := w) ?_ ?_
          · cases op <;> simp [eqOp] at hf <;> subst hf <;> simp [execOp, ho, hp, hy, eqGuard, binOp, heq]
          · rw [hd]
            exact fits_put h h.ok (Le.refl _) (.s _) hv.1 (hv.2 _ hpe)
        · split at hv
          · rename_i v hval; exact usual v hval hv
          · exact hv.elim
      · split at hv
        · rename_i v hval; exact usual v hval hv
        · exact hv.elim
    · exact hv.elim
  · rename_i t r ho
    split at hv
    · rename_i d hd
      refine goes_sound (H1 := []) (F := H) h hd hv.1 (x := Instr.makeMap t none) (by simp [execOp, ho]) (makeMap_goes h.ok.imr t d) h.ok ?_
      rintro av H' ⟨b, rfl, rfl⟩
      exact ⟨_, (erase_sub d H).cons_cons _, hv.2 b⟩
    · exact hv.elim
  · rename_i t x k comma ho
    split at hv
    · rename_i d v hd hval
      obtain ⟨u, hr, hu⟩ := lookupA_sound hval (ev h x) (ev h k) h.ok.imr h.ok.own
      refine upon_value (v := u) (w' := w) (by simp [execOp, ho, hr]) ?_
      rw [hd]
      exact fits_put h h.ok (Le.refl _) hu hv.1 hv.2
    · exact hv.elim
  · rename_i t m k x ho
    obtain ⟨hd, hv⟩ := hv
    unfold mapVC at hv
    split at hv
    · rename_i kt e b kb ht hm hk
      obtain ⟨hks, hv⟩ := hv
      split at hv
      · rename_i l es hf
        have hmv := ev h m
        rw [hm] at hmv
        have hkv := ev h k
        rw [hk] at hkv
        obtain ⟨L, R, rfl, hsub⟩ := findMpL_split hf
        have hF : Ok B im w ([(l, .mp b es)] ++ (L ++ R)) := h.ok.perm List.perm_middle
        obtain ⟨w', hr, hok⟩ := mapPut_goes (P := C.P) h.ok.imr l (hF.own (l, .mp b es) (by simp)) ht hks (ev h x) hv.1
        refine upon_skip (w' := w') (by simp [execOp, ho, sInv hmv, sInv hkv, hr]) ?_
        rw [hd]
        exact ⟨im, E, _, ⟨(hF.step hok).sub (hsub.cons_cons _), h.env, h.glo, h.defers, h.size⟩, hv.2⟩
      · exact hv.elim
    · exact hv.elim
  · rename_i t x ho
    split at hv
    · rename_i d hd
      unfold rangeVC at hv
      split at hv
      · rename_i s hk hx
        have hxv := ev h x
        rw [hx] at hxv
        refine goes_sound (H1 := []) (F := H) h hd hv.1 (x := Instr.range t (.string s)) (by simp [execOp, ho, sInv hxv]) (range_goes h.ok.imr d hk) h.ok ?_
        rintro av H' ⟨b, rfl, rfl⟩
        exact ⟨_, (erase_sub d H).cons_cons _, hv.2 b⟩
      · exact hv.elim
    · exact hv.elim
  · rename_i it isStr ho
    split at hv
    · rename_i d hd
      obtain ⟨rfl, hv⟩ := hv
      unfold nextVC at hv
      split at hv
      · rename_i l b hi
        have hiv := ev h it
        rw [hi] at hiv
        have hie : a.eval it = .pointer (some ⟨b, 0, none⟩) := by generalize a.eval it = u at hiv; cases hiv; rfl
        split at hv
        · rename_i b' s pos hf
          obtain ⟨rfl, hN, hK⟩ := hv
          obtain ⟨F, hF, hsub⟩ := h.ok.take hf
          refine goes_sound (F := F) h hd hN (x := Instr.next (.pointer (some ⟨b', 0, none⟩)) true o.type) (by simp [execOp, ho, hie]) (next_goes h.ok.imr l (hF.own (l, .iter b' s pos) (by simp))) hF ?_
          rintro av H' ⟨rfl, rfl⟩
          exact ⟨_, hsub.cons_cons _, hK⟩
        · exact hv.elim
      · exact hv.elim
    · exact hv.elim
  · rename_i t l c ho
    split at hv
    · rename_i d hd
      unfold makeVC at hv
      split at hv
      · rename_i e kl n kc c' hk hl hc
        have hlv := ev h l
        rw [hl] at hlv
        have hcv := ev h c
        rw [hc] at hcv
        obtain ⟨hN, rfl, h1, h2, h3, h4, h5, hK⟩ := hv
        refine goes_sound (H1 := []) (F := H) h hd hN (x := Instr.makeSlice t (.int kl 0) (.int kc c')) (by simp [execOp, ho, sInv hlv, sInv hcv]) (makeEmpty_goes h.ok.imr d hk h1 h2 h3 h4 h5) h.ok ?_
        rintro av H' ⟨q, rfl, rfl⟩
        exact ⟨_, (erase_sub d H).cons_cons _, hK q⟩
      · exact hv.elim
    · exact hv.elim
  · split at hv
    · rename_i d v hd hval
      exact val_sound h hd hval hv.1 hv.2
    · exact hv.elim

theorem wanted_none {o : Oper} (h : o.guard = none) (y : Nat → Option Bool) : Region.wanted o y = true := by simp [Region.wanted, h]

theorem fits_env {E' : Env} (h : St C B im E H a w) (he : RepE im E' a) : St C B im E' H a w := ⟨h.ok, he, h.glo, h.defers, h.size⟩

theorem repE_upd_same {E : Env} {g : Nat} {av : AV} (h : RepE im E a) (hv : Rep im av (a.tmps.getD g undef)) : RepE im (upd E g av) a := by
  intro i
  unfold upd
  split
  · rename_i e; subst e; exact hv
  · exact h i

theorem opsVC_sound {ops : Array Oper} {K : Env → AHeap → Prop} {Q : Exit → Act → World → Prop} (hQ : ∀ a w, Fits C B K a w → Q .normal a w) : ∀ (l : List Oper) (E : Env) (H : AHeap) (im : Im) (a : Act) (w : World),
    St C B im E H a w → opsVC C ops l E H K → wpList C.P ops Q l a w
  | [], E, H, im, a, w, h, hv => hQ a w ⟨im, E, H, h, hv⟩
  | o :: rest, E, H, im, a, w, h, hv => by
    simp only [opsVC] at hv
    simp only [wpList]
    cases hg : o.guard with
    | none =>
      rw [hg] at hv
      rw [if_pos (wanted_none hg _)]
      refine .inl (Oper.wp_mono (fun a' w' hf => ?_) (opVC_sound (K := fun E' H' => opsVC C ops rest E' H' K) h hv))
      obtain ⟨im', E', H', h', hv'⟩ := hf
      exact opsVC_sound hQ rest E' H' im' a' w' h' hv'
    | some jw =>
      obtain ⟨j, want⟩ := jw
      rw [hg] at hv
      simp only at hv
      split at hv
      · rename_i g d hgd hd
        have hslot : Rep im (E g) (a.tmps.getD g undef) := h.env g
        split at hv
        · rename_i x he
          rw [he] at hslot
          have hval := sInv hslot
          have hget : a.tmps[g]? = some (.bool x) := by
            simp only [Array.getD_eq_getD_getElem?] at hval
            cases e : a.tmps[g]? with
            | none => simp [e, undef] at hval
            | some u => simp [e] at hval; rw [hval]
          have hy : yielded ops a.tmps j = some x := by simp [yielded, hgd, hget]
          by_cases hx : x = want
          · have hwant : Region.wanted o (yielded ops a.tmps) = true := by simp [Region.wanted, hg, hy, hx]
            rw [if_pos hwant]
            have hst := fits_env h (repE_upd_same (g := g) (av := .s (.bool want)) h.env (by rw [hval, hx]; exact .s _))
            refine .inl (Oper.wp_mono (fun a' w' hf => ?_) (opVC_sound (K := fun E' H' => opsVC C ops rest E' H' K) hst (hv.1 hx)))
            obtain ⟨im', E', H', h', hv'⟩ := hf
            exact opsVC_sound hQ rest E' H' im' a' w' h' hv'
          · have hxn : x = !want := by cases x <;> cases want <;> simp_all
            have hwant : Region.wanted o (yielded ops a.tmps) = false := by simp [Region.wanted, hg, hy, hx]
            rw [if_neg (by simp [hwant])]
            obtain ⟨hN, hv'⟩ := hv.2 hxn
            have hst := fits_env h (repE_upd_same (g := g) (av := .s (.bool (!want))) h.env (by rw [hval, hxn]; exact .s _))
            rw [hd]
            exact opsVC_sound hQ rest _ H im _ w ⟨h.ok, hst.env.put (by rw [h.size]; exact hN) (.s undef), h.glo, by rw [defers_put]; exact h.defers, by rw [size_put]; exact h.size⟩ hv'
        · rename_i he
          obtain ⟨hN, hv'⟩ := hv
          rw [he] at hslot
          have hval := sInv hslot
          have hy : yielded ops a.tmps j = none := by
            simp only [Array.getD_eq_getD_getElem?] at hval
            simp only [yielded, hgd, Option.bind_some]
            cases e : a.tmps[g]? with
            | none => rfl
            | some u => simp [e] at hval; rw [hval]
          have hwant : Region.wanted o (yielded ops a.tmps) = false := by simp [Region.wanted, hg, hy]
          rw [if_neg (by simp [hwant])]
          rw [hd]
          exact opsVC_sound hQ rest _ H im _ w ⟨h.ok, h.env.put (by rw [h.size]; exact hN) (.s undef), h.glo, by rw [defers_put]; exact h.defers, by rw [size_put]; exact h.size⟩ hv'
        · exact hv.elim
      · exact hv.elim
end

section
variable {C : Cx}

theorem W_region {id : Nat} {ops : Array Oper} {E : Env} {H : AHeap} {Q : Exit → Env → AHeap → Prop} (h : opsVC C ops ops.toList E H (Q .normal)) : W C (.region id ops false) E H Q := by
  intro B im a w hst
  refine wp_region ?_
  have := wpOps_eq_wpList (P := C.P) (ops := ops) (Q := fun e a' w' => Fits C B (Q e) a' w') ops.toList 0 (fun j => by simp)
  rw [List.range_eq_range', ← Array.length_toList, this]
  exact opsVC_sound (fun a w hf => hf) _ E H im a w hst h

theorem W_mono {c : Code} {E : Env} {H : AHeap} {Q Q' : Exit → Env → AHeap → Prop} (h : W C c E H Q) (hq : ∀ e E H, Q e E H → Q' e E H) : W C c E H Q' :=
  fun B im a w hst => wp_mono (h B im a w hst) fun e a' w' ⟨im', E', H', h1, h2⟩ => ⟨im', E', H', h1, hq _ _ _ h2⟩

theorem W_seq {x y : Code} {E : Env} {H : AHeap} {Q : Exit → Env → AHeap → Prop} (h : W C x E H (qThen (fun E' H' => W C y E' H' Q) Q)) : W C (.seq x y) E H Q := by
  intro B im a w hst
  refine wp_seq (wp_mono (h B im a w hst) fun e a' w' ⟨im', E', H', h1, h2⟩ => ?_)
  cases e with
  | normal => exact h2 B im' a' w' h1
  | _ => exact ⟨im', E', H', h1, h2⟩

theorem W_block {id : Nat} {c : Code} {E : Env} {H : AHeap} {Q : Exit → Env → AHeap → Prop} (h : W C c E H (qBlock id Q)) : W C (.block id c) E H Q := by
  intro B im a w hst
  refine wp_block (wp_mono (h B im a w hst) fun e a' w' ⟨im', E', H', h1, h2⟩ => ?_)
  cases e with
  | exit id' =>
    simp only [Exit.inBlock]
    simp only [qBlock] at h2
    split
    · rename_i e; rw [if_pos e] at h2; exact ⟨im', E', H', h1, h2⟩
    · rename_i e; rw [if_neg e] at h2; exact ⟨im', E', H', h1, h2⟩
  | _ => exact ⟨im', E', H', h1, h2⟩

theorem vc_sound : ∀ (c : Code) (E : Env) (H : AHeap) (Q : Exit → Env → AHeap → Prop), vc C c E H Q → W C c E H Q
  | .skip, E, H, Q, h => fun B im a w hst => wp_skip ⟨im, E, H, hst, h⟩
  | .region id ops draw, E, H, Q, h => by
    cases draw with
    | true => exact h
    | false => exact W_region h
  | .seq x y, E, H, Q, h => W_seq (W_mono (vc_sound x E H _ h) fun e E' H' hq => by
      cases e with
      | normal => exact vc_sound y E' H' Q hq
      | _ => exact hq)
  | .cond c x y, E, H, Q, h => by
    intro B im a w hst
    have hc := rep_ev hst.env hst.glo c
    simp only [vc] at h
    split at h
    · rename_i t he
      rw [he] at hc
      refine wp_cond_split (sInv hc) (fun ht => ?_) (fun ht => ?_)
      · exact vc_sound x E H Q (h.1 ht) B im a w hst
      · exact vc_sound y E H Q (h.2 ht) B im a w hst
    · exact h.elim
  | .block id c, E, H, Q, h => W_block (vc_sound c E H _ h)
  | .exit id, E, H, Q, h => fun B im a w hst => wp_exit ⟨im, E, H, hst, h⟩
  | .ret, E, H, Q, h => fun B im a w hst => wp_ret ⟨im, E, H, hst, h⟩
  | .loop c, E, H, Q, h => h
  | .rangeFunc f ps as c, E, H, Q, h => h
  | .scope c, E, H, Q, h => h
  | .label l, E, H, Q, h => h
  | .goto l, E, H, Q, h => h
  | .refuse s, E, H, Q, h => h

/-- A loop: I tells the abstract states at a round's head, mu gets less. -/
theorem W_loop {c : Code} {E : Env} {H : AHeap} {Q : Exit → Env → AHeap → Prop} (I : Nat → Env → AHeap → Prop) (n : Nat) (h0 : I n E H)
    (round : ∀ n E H, I n E H → W C c E H (qThen (fun E' H' => ∃ m, m < n ∧ I m E' H') Q)) : W C (.loop c) E H Q := by
  intro B im a w hst b k cs
  have key : ∀ n im E H a w, St C B im E H a w → I n E H →
      ∃ e a' w', Fits C B (Q e) a' w' ∧ Arrives C.P (lone (b.at a (.code c :: .inLoop c :: k)) cs w) b k cs e a' w' := by
    intro n
    induction n using Nat.strongRecOn with
    | _ n ih =>
      intro im E H a w hst hI
      obtain ⟨e, a₁, w₁, hq, harr⟩ := round n E H hI B im a w hst b (.inLoop c :: k) cs
      cases e with
      | normal =>
        obtain ⟨im', E', H', h1, m, hm, hI'⟩ := hq
        obtain ⟨e₂, a₂, w₂, hq₂, harr₂⟩ := ih m hm im' E' H' a₁ w₁ h1 hI'
        exact ⟨e₂, a₂, w₂, hq₂, .of_steps (Steps.trans harr (.one step_inLoop)) harr₂⟩
      | exit id => exact ⟨_, a₁, w₁, hq, .pass (x := .inLoop c) rfl (fun _ _ => .inl (by simp)) harr⟩
      | goto l => exact ⟨_, a₁, w₁, hq, .pass (x := .inLoop c) rfl (fun _ _ => .inl (by simp)) harr⟩
      | ret => exact ⟨_, a₁, w₁, hq, .pass (x := .inLoop c) rfl (fun _ _ => .inl (by simp)) harr⟩
      | panic ch => exact ⟨_, a₁, w₁, hq, .pass (x := .inLoop c) rfl (fun _ _ => .inl (by simp)) harr⟩
      | outgrown => exact ⟨_, a₁, w₁, hq, .pass (x := .inLoop c) rfl (fun _ _ => .inl (by simp)) harr⟩
  obtain ⟨e, a', w', hq, harr⟩ := key n im E H a w hst h0
  exact ⟨e, a', w', hq, .of_steps (.one step_loop) harr⟩

/-! ### A function's contract out of its code -/
def resA (E : Env) (H : AHeap) (P : Program) : ResultVar → Option AV
  | .tmp t => some (E t)
  | .cell t T => loadA (tyI P T) H (E t)

def resultsA (P : Program) (rs : List ResultVar) (E : Env) (H : AHeap) : Option AV :=
  match rs with
  | [r] => resA E H P r
  | rs => (rs.mapM (resA E H P)).map .tup

def argE (args : List AV) : Env := fun i => (args[i]?).getD (.s undef)

def postA (P : Program) (rs : List ResultVar) (R : AV → AHeap → Prop) : Exit → Env → AHeap → Prop
  | .normal, E, H => ∃ av, resultsA P rs E H = some av ∧ R av H
  | .ret, E, H => ∃ av, resultsA P rs E H = some av ∧ R av H
  | _, _, _ => False
end
end Go.Proofs.YtjhnabdcmfjeoaaGreatDoor.Ab
/- A function's contract out of its code. Own work; a plain theory over any program. -/
set_option linter.unusedVariables false
set_option linter.unusedSimpArgs false
namespace Go.Proofs.YtjhnabdcmfjeoaaGreatDoor.Ab
open Go

def resM (tmps : Array Value) : ResultVar → Sem Value
  | .tmp t => pure (tmps.getD t undef)
  | .cell p t => do loadVar t (← asAddr (tmps.getD p undef))

theorem results_eq (fn : Func) (tmps : Array Value) : results fn tmps = (do
    let vs ← fn.results.mapM (resM tmps)
    pure (if h : vs.size = 1 then vs[0] else .tuple vs)) := rfl

section
variable {C : Cx}

theorem res_sound {B : Base} {im : Im} {E : Env} {H : AHeap} {a : Act} {w : World} (h : St C B im E H a w) {r : ResultVar} {av : AV} (hr : resA E H C.P r = some av) :
    ∃ v, (resM a.tmps r).run C.P w = .ok v w ∧ Rep im av v := by
  cases r with
  | tmp t => cases hr; exact ⟨_, rfl, h.env t⟩
  | cell p t =>
    have hp := h.env p
    simp only [resA] at hr
    obtain ⟨v, h1, h2⟩ := loadA_sound (P := C.P) (w := w) hr hp h.ok.imr h.ok.own
    refine ⟨v, ?_, h2⟩
    have hptr : ∃ ad, a.tmps.getD p undef = .pointer (some ad) := by
      unfold loadA at hr
      split at hr
      · rename_i cs he; rw [he] at hp; generalize a.tmps.getD p undef = u at hp; cases hp; exact ⟨_, rfl⟩
      · rename_i l b off he; rw [he] at hp; generalize a.tmps.getD p undef = u at hp; cases hp; exact ⟨_, rfl⟩
      · cases hr
    obtain ⟨ad, had⟩ := hptr
    simp only [had, Instr.loadAt, Instr.sureAddr, pure_bind] at h1
    simp only [resM, had, asAddr, pure_bind]
    exact h1

theorem results_mapM {B : Base} {im : Im} {E : Env} {H : AHeap} {a : Act} {w : World} (h : St C B im E H a w) : ∀ (rs : List ResultVar) (avs : List AV), rs.mapM (resA E H C.P) = some avs →
    ∃ vs : List Value, (rs.mapM (resM a.tmps)).run C.P w = .ok vs w ∧ RepL im avs vs
  | [], avs, hr => by
    simp at hr; subst hr
    exact ⟨[], by simp, rfl, fun i c v hi _ => by simp at hi⟩
  | r :: rs, avs, hr => by
    simp only [List.mapM_cons, Option.bind_eq_bind, Option.bind_eq_some_iff, Option.pure_def, Option.some.injEq] at hr
    obtain ⟨av, h1, avs', h2, rfl⟩ := hr
    obtain ⟨v, h3, h4⟩ := res_sound h h1
    obtain ⟨vs, h5, h6, h7⟩ := results_mapM h rs avs' h2
    refine ⟨v :: vs, ?_, by simp [h6], fun i c u hi hu => ?_⟩
    · simp only [List.mapM_cons, Sem.run_bind, h3, Result.andThen_ok, h5, Sem.run_pure]
    · cases i with
      | zero => simp at hi hu; subst hi hu; exact h4
      | succ i => exact h7 i c u (by simpa using hi) (by simpa using hu)

theorem results_sound {B : Base} {im : Im} {E : Env} {H : AHeap} {a : Act} {w : World} (h : St C B im E H a w) {fn : Func} {av : AV} (hr : resultsA C.P fn.results.toList E H = some av) :
    ∃ v, (results fn a.tmps).run C.P w = .ok v w ∧ Rep im av v := by
  have hm : ∀ avs, fn.results.toList.mapM (resA E H C.P) = some avs → ∃ vs : List Value, (fn.results.mapM (resM a.tmps)).run C.P w = .ok vs.toArray w ∧ RepL im avs vs := by
    intro avs ha
    obtain ⟨vs, h1, h2⟩ := results_mapM h _ _ ha
    refine ⟨vs, ?_, h2⟩
    rw [Array.mapM_eq_mapM_toList]
    simp only [Sem.run_map, h1, Result.andThen_ok]
  unfold resultsA at hr
  split at hr
  · rename_i r hl
    obtain ⟨vs, h1, h2, h3⟩ := hm [av] (by rw [hl]; simp [hr])
    match vs, h2 with
    | [v], _ =>
      refine ⟨v, ?_, h3 0 av v rfl rfl⟩
      rw [results_eq]
      simp only [Sem.run_bind, h1, Result.andThen_ok]
      simp
  · rename_i hl
    rw [Option.map_eq_some_iff] at hr
    obtain ⟨avs, ha, rfl⟩ := hr
    obtain ⟨vs, h1, h2, h3⟩ := hm avs ha
    have hlen : avs.length = fn.results.toList.length := by
      have : ∀ (l : List ResultVar) (xs : List AV), l.mapM (resA E H C.P) = some xs → xs.length = l.length := by
        intro l
        induction l with
        | nil => intro xs hx; simp at hx; subst hx; rfl
        | cons r l ih =>
          intro xs hx
          simp only [List.mapM_cons, Option.bind_eq_bind, Option.bind_eq_some_iff, Option.pure_def, Option.some.injEq] at hx
          obtain ⟨y, _, ys, hy, rfl⟩ := hx
          simp [ih ys hy]
      exact this _ _ ha
    have hne : vs.toArray.size ≠ 1 := by
      intro e
      have e' : fn.results.toList.length = 1 := by rw [← hlen, h2]; simpa using e
      obtain ⟨r, hr⟩ := List.length_eq_one_iff.1 e'
      exact hl r hr
    refine ⟨.tuple vs.toArray, ?_, .tup _ _ (by simp [h2]) (fun i c v hi hv => h3 i c v hi (by simpa using hv))⟩
    rw [results_eq]
    simp only [Sem.run_bind, h1, Result.andThen_ok]
    rw [dif_neg hne]
    rfl

theorem getD_args {vs : List Value} {N i : Nat} : (vs.toArray ++ Array.replicate (N - vs.toArray.size) undef).getD i undef = (vs[i]?).getD undef := by
  simp only [Array.getD_eq_getD_getElem?, Array.getElem?_append, List.size_toArray, List.getElem?_toArray, Array.getElem?_replicate]
  split
  · rfl
  · rename_i h
    rw [List.getElem?_eq_none (by omega)]
    split <;> rfl

/-- A function's contract out of its code's condition. -/
theorem calls_of_code {f : FuncId} {fn : Func} {c : Code} {args : List AV} {H : AHeap} {R : AV → AHeap → Prop} (hf : C.P.funcs[f]? = some fn) (hb : fn.body = some c) (hN : fn.ntmps = C.N) (hargs : args.length ≤ C.N)
    (h : W C c (argE args) H (postA C.P fn.results.toList R)) : CallsA C.P C.gl f args H R := by
  intro im w vs hr hok hg
  have hlen : vs.length ≤ C.N := by rw [← hr.1]; exact hargs
  refine calls_of_wp hf hb (wp_mono (h (here im w H) im _ w ⟨hok, fun i => ?_, hg, rfl, ?_⟩) fun e a' w' ⟨im', E', H', hst, hq⟩ => ?_)
  · show Rep im (argE args i) ((vs.toArray ++ Array.replicate (fn.ntmps - vs.toArray.size) undef).getD i undef)
    rw [getD_args]
    simp only [argE]
    cases ha : args[i]? with
    | none =>
      have : vs[i]? = none := by
        rw [List.getElem?_eq_none_iff] at ha ⊢
        rw [← hr.1]; exact ha
      rw [this]; exact .s _
    | some c =>
      have hlt : i < vs.length := by rw [← hr.1]; exact (List.getElem?_eq_some_iff.1 ha).1
      have : vs[i]? = some vs[i] := by simp [hlt]
      rw [this]
      exact hr.2 i c _ ha this
  · simp [hN]; omega
  · have key : ∀ av, resultsA C.P fn.results.toList E' H' = some av → R av H' → a'.defers = [] ∧ ∃ v, (results fn a'.tmps).run C.P w' = .ok v w' ∧ ∃ v' im' av H', Ending.returned v = .returned v' ∧ Ok (here im w H) im' w' H' ∧ Rep im' av v' ∧ R av H' := by
      intro av hav hR
      obtain ⟨v, h1, h2⟩ := results_sound hst hav
      exact ⟨hst.defers, v, h1, v, im', av, H', rfl, hst.ok, h2, hR⟩
    cases e with
    | normal => obtain ⟨av, h1, h2⟩ := hq; exact key av h1 h2
    | ret => obtain ⟨av, h1, h2⟩ := hq; exact key av h1 h2
    | _ => exact hq.elim
end
end Go.Proofs.YtjhnabdcmfjeoaaGreatDoor.Ab
/- The conditions in the form in which simp evaluates them: nothing is left under a binder. Own work; a plain theory over any program. -/
set_option linter.unusedVariables false
set_option linter.unusedSimpArgs false
namespace Go.Proofs.YtjhnabdcmfjeoaaGreatDoor.Ab
open Go

/-- What follows behind code y. -/
def qSeq (C : Cx) (y : Code) (Q : Exit → Env → AHeap → Prop) : Exit → Env → AHeap → Prop := qThen (fun E' H' => vc C y E' H' Q) Q

section
variable (C : Cx) (ops : Array Oper) (rest : List Oper) (d : Nat) (E : Env) (H : AHeap) (K : Env → AHeap → Prop) (Q : Exit → Env → AHeap → Prop)

def stepV (o : Option AV) : Prop := match o with | some v => d < C.N ∧ opsVC C ops rest (upd E d v) H K | none => False
theorem stepV_some (v : AV) : stepV C ops rest d E H K (some v) = (d < C.N ∧ opsVC C ops rest (upd E d v) H K) := rfl
theorem stepV_none : stepV C ops rest d E H K none = False := rfl
theorem stepV_ite (c : Prop) [Decidable c] (x : Option AV) : stepV C ops rest d E H K (if c then x else none) = (c ∧ stepV C ops rest d E H K x) := by
  by_cases h : c <;> simp [h, stepV]
theorem stepV_ite' (c : Prop) [Decidable c] (x : Option AV) : stepV C ops rest d E H K (if c then none else x) = (¬ c ∧ stepV C ops rest d E H K x) := by
  by_cases h : c <;> simp [h, stepV]

def condS (x y : Code) (v : AV) : Prop := match v with | .s (.bool t) => (t = true → vc C x E H Q) ∧ (t = false → vc C y E H Q) | _ => False
theorem condS_bool (x y : Code) (t : Bool) : condS C E H Q x y (.s (.bool t)) = ((t = true → vc C x E H Q) ∧ (t = false → vc C y E H Q)) := rfl
theorem condS_true (x y : Code) : condS C E H Q x y (.s (.bool true)) = vc C x E H Q := by simp [condS]
theorem condS_false (x y : Code) : condS C E H Q x y (.s (.bool false)) = vc C y E H Q := by simp [condS]

def contR (dst : Option Nat) : AV → AHeap → Prop := fun av H' => match dst with | some d => d < C.N ∧ opsVC C ops rest (upd E d av) H' K | none => opsVC C ops rest E H' K
theorem contR_some (av : AV) (H' : AHeap) : contR C ops rest E K (some d) av H' = (d < C.N ∧ opsVC C ops rest (upd E d av) H' K) := rfl
theorem contR_none (av : AV) (H' : AHeap) : contR C ops rest E K none av H' = opsVC C ops rest E H' K := rfl

def storeV (x p : AV) (n : Nat) : Prop := match p with
  | .ptr l b off => match find l H with
    | some (.box b' T cs) => b' = b ∧ x.ones = true ∧ x.cells.length = n ∧ 0 < n ∧ off + x.cells.length ≤ cs.length ∧ opsVC C ops rest E ((l, .box b T (putCells cs off x.cells)) :: erase l H) K
    | _ => False
  | _ => False
def storeB (x : AV) (n l b off : Nat) (r : Option Res) : Prop := match r with
  | some (.box b' T cs) => b' = b ∧ x.ones = true ∧ x.cells.length = n ∧ 0 < n ∧ off + x.cells.length ≤ cs.length ∧ opsVC C ops rest E ((l, .box b T (putCells cs off x.cells)) :: erase l H) K
  | _ => False
theorem storeV_ptr (x : AV) (n l b off : Nat) : storeV C ops rest E H K x (.ptr l b off) n = storeB C ops rest E H K x n l b off (find l H) := rfl
theorem storeB_box (x : AV) (n l b off b' : Nat) (T : TypeId) (cs : List AV) : storeB C ops rest E H K x n l b off (some (.box b' T cs)) =
    (b' = b ∧ x.ones = true ∧ x.cells.length = n ∧ 0 < n ∧ off + x.cells.length ≤ cs.length ∧ opsVC C ops rest E ((l, .box b T (putCells cs off x.cells)) :: erase l H) K) := rfl

def bslV (n : Nat) (mo : Bool) (r : Option (TypeId × List AV)) : Prop := match r with
  | some (e, es) => d < C.N ∧ n ≤ maxLen ∧ (if mo = true then ∀ q, opsVC C ops rest (upd E d (.lst (tyI C.P e).size es (some (d, q)))) ((d, .own e (tyI C.P e).size es.length q) :: erase d H) K else opsVC C ops rest (upd E d (.lst (tyI C.P e).size es none)) H K)
  | _ => False
theorem bslV_own (n : Nat) (e : TypeId) (es : List AV) : bslV C ops rest d E H K n true (some (e, es)) = (d < C.N ∧ n ≤ maxLen ∧ ∀ q, opsVC C ops rest (upd E d (.lst (tyI C.P e).size es (some (d, q)))) ((d, .own e (tyI C.P e).size es.length q) :: erase d H) K) := rfl
theorem bslV_lay (n : Nat) (e : TypeId) (es : List AV) : bslV C ops rest d E H K n false (some (e, es)) = (d < C.N ∧ n ≤ maxLen ∧ opsVC C ops rest (upd E d (.lst (tyI C.P e).size es none)) H K) := rfl
theorem bslV_ite (n : Nat) (m : Bool) (c : Prop) [Decidable c] (x : Option (TypeId × List AV)) : bslV C ops rest d E H K n m (if c then x else none) = (c ∧ bslV C ops rest d E H K n m x) := by
  by_cases h : c <;> simp [h, bslV]

def boxV (t : TypeId) (x : AV) (mo : Bool) : Prop := d < C.N ∧ x.ones = true ∧ (if mo = true then ∀ b, opsVC C ops rest (upd E d (.ptr d b 0)) ((d, .box b t x.cells) :: erase d H) K else opsVC C ops rest (upd E d (.rp x.cells)) H K)
theorem boxV_own (t : TypeId) (x : AV) : boxV C ops rest d E H K t x true = (d < C.N ∧ x.ones = true ∧ ∀ b, opsVC C ops rest (upd E d (.ptr d b 0)) ((d, .box b t x.cells) :: erase d H) K) := rfl
theorem boxV_lay (t : TypeId) (x : AV) : boxV C ops rest d E H K t x false = (d < C.N ∧ x.ones = true ∧ opsVC C ops rest (upd E d (.rp x.cells)) H K) := rfl

/-! append, the list first -/
def appV (e : TypeId) (i : TyI) (ys : Option (List AV)) (x : Option (Option (Nat × Own × List AV))) : Prop := match ys, x with
    | some ys, some none => ys.length * i.bytes ≤ 140737488355328 ∧ ys.length ≤ 9223372036854775807 ∧ ∀ q, opsVC C ops rest (upd E d (.lst i.size ys (some (d, q)))) ((d, .own e i.size ys.length q) :: erase d H) K
    | some ys, some (some (l, q, es)) => (match find l H with | some (.own e' sz' n' q') => e' = e ∧ sz' = i.size ∧ n' = es.length ∧ q' = q | _ => False) ∧
      (es.length + ys.length) * i.bytes ≤ 140737488355328 ∧ es.length + ys.length ≤ 9223372036854775807 ∧
      ∀ q', opsVC C ops rest (upd E d (.lst i.size (es ++ ys) (some (d, q')))) ((d, .own e i.size (es.length + ys.length) q') :: erase d (erase l H)) K
    | _, _ => False
theorem appV_new (e : TypeId) (i : TyI) (ys : List AV) : appV C ops rest d E H K e i (some ys) (some none) = (ys.length * i.bytes ≤ 140737488355328 ∧ ys.length ≤ 9223372036854775807 ∧ ∀ q, opsVC C ops rest (upd E d (.lst i.size ys (some (d, q)))) ((d, .own e i.size ys.length q) :: erase d H) K) := rfl
def ownIs (e : TypeId) (sz n : Nat) (q : Own) (r : Option Res) : Prop := match r with | some (.own e' sz' n' q') => e' = e ∧ sz' = sz ∧ n' = n ∧ q' = q | _ => False
theorem ownIs_own (e : TypeId) (sz n : Nat) (q : Own) (e' : TypeId) (sz' n' : Nat) (q' : Own) : ownIs e sz n q (some (.own e' sz' n' q')) = (e' = e ∧ sz' = sz ∧ n' = n ∧ q' = q) := rfl
theorem appV_on (e : TypeId) (i : TyI) (ys es : List AV) (l : Nat) (q : Own) : appV C ops rest d E H K e i (some ys) (some (some (l, q, es))) = (ownIs e i.size es.length q (find l H) ∧
      (es.length + ys.length) * i.bytes ≤ 140737488355328 ∧ es.length + ys.length ≤ 9223372036854775807 ∧
      ∀ q', opsVC C ops rest (upd E d (.lst i.size (es ++ ys) (some (d, q')))) ((d, .own e i.size (es.length + ys.length) q') :: erase d (erase l H)) K) := rfl
def app1 (t tx : TK) (x y : AV) : Prop := match t with
  | .slice e => 0 < (tyI C.P e).size ∧ (tyI C.P e).zero.length = (tyI C.P e).size ∧ d < C.N ∧ (if isStrV y = true then isStrK tx = true else isSlice tx = true) ∧ appV C ops rest d E H K e (tyI C.P e) (srcOf (tyI C.P e).size y) (ownOf (tyI C.P e).size H x)
  | _ => False
theorem app1_slice (e : TypeId) (tx : TK) (x y : AV) : app1 C ops rest d E H K (.slice e) tx x y = (0 < (tyI C.P e).size ∧ (tyI C.P e).zero.length = (tyI C.P e).size ∧ d < C.N ∧ (if isStrV y = true then isStrK tx = true else isSlice tx = true) ∧
    appV C ops rest d E H K e (tyI C.P e) (srcOf (tyI C.P e).size y) (ownOf (tyI C.P e).size H x)) := rfl

theorem vc_skip : vc C .skip E H Q = Q .normal E H := rfl
theorem vc_region (id : Nat) (ops : Array Oper) : vc C (.region id ops false) E H Q = opsVC C ops ops.toList E H (Q .normal) := rfl
theorem vc_draw (id : Nat) (ops : Array Oper) : vc C (.region id ops true) E H Q = W C (.region id ops true) E H Q := rfl
theorem vc_seq (x y : Code) : vc C (.seq x y) E H Q = vc C x E H (qSeq C y Q) := rfl
theorem vc_cond (c : Operand) (x y : Code) : vc C (.cond c x y) E H Q = condS C E H Q x y (evA C.gl E c) := rfl
theorem vc_block (id : Nat) (c : Code) : vc C (.block id c) E H Q = vc C c E H (qBlock id Q) := rfl
theorem vc_exit (id : Nat) : vc C (.exit id) E H Q = Q (.exit id) E H := rfl
theorem vc_ret : vc C .ret E H Q = Q .ret E H := rfl
theorem vc_loop (c : Code) : vc C (.loop c) E H Q = W C (.loop c) E H Q := rfl
theorem qSeq_normal (y : Code) : qSeq C y Q .normal E H = vc C y E H Q := rfl
theorem qSeq_ret (y : Code) : qSeq C y Q .ret E H = Q .ret E H := rfl
theorem qSeq_exit (y : Code) (i : Nat) : qSeq C y Q (.exit i) E H = Q (.exit i) E H := rfl
theorem qThen_normal (n : Env → AHeap → Prop) : qThen n Q .normal E H = n E H := rfl
theorem qThen_ret (n : Env → AHeap → Prop) : qThen n Q .ret E H = Q .ret E H := rfl
theorem qThen_exit (n : Env → AHeap → Prop) (i : Nat) : qThen n Q (.exit i) E H = Q (.exit i) E H := rfl
theorem qBlock_normal (i : Nat) : qBlock i Q .normal E H = Q .normal E H := rfl
theorem qBlock_ret (i : Nat) : qBlock i Q .ret E H = Q .ret E H := rfl
theorem qBlock_here (i : Nat) : qBlock i Q (.exit i) E H = Q .normal E H := by simp [qBlock]
theorem qBlock_exit (i j : Nat) (h : j ≠ i) : qBlock i Q (.exit j) E H = Q (.exit j) E H := by simp [qBlock, h]

def retV (R : AV → AHeap → Prop) (o : Option AV) : Prop := match o with | some v => R v H | none => False
theorem retV_some (R : AV → AHeap → Prop) (v : AV) : retV H R (some v) = R v H := rfl
theorem postA_ret (P : Program) (rs : List ResultVar) (R : AV → AHeap → Prop) : postA P rs R .ret E H = retV H R (resultsA P rs E H) := by
  simp only [postA]
  cases resultsA P rs E H <;> simp [retV]
theorem postA_normal (P : Program) (rs : List ResultVar) (R : AV → AHeap → Prop) : postA P rs R .normal E H = retV H R (resultsA P rs E H) := by
  simp only [postA]
  cases resultsA P rs E H <;> simp [retV]

theorem ops_nil : opsVC C ops [] E H K = K E H := rfl

variable (ty : TypeId) (pos : String) (after : Array Edge)

theorem o_move (x : Operand) : opsVC C ops (⟨some d, .move x, ty, pos, after, none⟩ :: rest) E H K = (d < C.N ∧ opsVC C ops rest (upd E d (evA C.gl E x)) H K) := rfl
theorem o_assign (x : Operand) : opsVC C ops (⟨some d, .assign x, ty, pos, after, none⟩ :: rest) E H K = (d < C.N ∧ opsVC C ops rest (upd E d (evA C.gl E x)) H K) := rfl
theorem o_pick (c x y : Operand) : opsVC C ops (⟨some d, .pick c x y, ty, pos, after, none⟩ :: rest) E H K = stepV C ops rest d E H K (pickA (evA C.gl E c) (evA C.gl E x) (evA C.gl E y)) := by
  show (match some d, pickA (evA C.gl E c) (evA C.gl E x) (evA C.gl E y) with | some d, some v => d < C.N ∧ opsVC C ops rest (upd E d v) H K | _, _ => False) = _
  cases pickA (evA C.gl E c) (evA C.gl E x) (evA C.gl E y) <;> rfl
theorem o_load (t : TypeId) (p : Operand) : opsVC C ops (⟨some d, .load t p, ty, pos, after, none⟩ :: rest) E H K = stepV C ops rest d E H K (loadA (tyI C.P t) H (evA C.gl E p)) := by
  show (match some d, loadA (tyI C.P t) H (evA C.gl E p) with | some d, some v => d < C.N ∧ opsVC C ops rest (upd E d v) H K | _, _ => False) = _
  cases loadA (tyI C.P t) H (evA C.gl E p) <;> rfl
theorem o_nilCheck (x : Operand) : opsVC C ops (⟨some d, .nilCheck x, ty, pos, after, none⟩ :: rest) E H K = stepV C ops rest d E H K (nilA (evA C.gl E x)) := by
  show (match some d, nilA (evA C.gl E x) with | some d, some v => d < C.N ∧ opsVC C ops rest (upd E d v) H K | _, _ => False) = _
  cases nilA (evA C.gl E x) <;> rfl
theorem o_binOp (op : BinOp) (t : TypeId) (x y : Operand) (yt : TypeId) (hn : isNilL y = false) : opsVC C ops (⟨some d, .binOp op t x y yt, ty, pos, after, none⟩ :: rest) E H K = stepV C ops rest d E H K (binA C.P op t (isConst x || isConst y) (evA C.gl E x) (evA C.gl E y)) := by
  show (if isNilL y = true then nilVC C d op (tyI C.P t).kind (evA C.gl E x) (binA C.P op t (isConst x || isConst y) (evA C.gl E x) (evA C.gl E y)) E H (fun E' H' => opsVC C ops rest E' H' K) else
    match binA C.P op t (isConst x || isConst y) (evA C.gl E x) (evA C.gl E y) with | some v => d < C.N ∧ opsVC C ops rest (upd E d v) H K | none => False) = _
  rw [hn]
  cases binA C.P op t (isConst x || isConst y) (evA C.gl E x) (evA C.gl E y) <;> rfl
def nilV (op : BinOp) (k : TK) (x : AV) (r : Option AV) : Prop := match k, x, eqOp op with
  | .slice _, .lst _ es _, some f => d < C.N ∧ ∀ t, (t = true → es = []) → opsVC C ops rest (upd E d (.s (.bool (f t)))) H K
  | _, _, _ => stepV C ops rest d E H K r
theorem o_binNil (op : BinOp) (t : TypeId) (x : Operand) (yt : TypeId) : opsVC C ops (⟨some d, .binOp op t x (.const (.slice none 0 0)) yt, ty, pos, after, none⟩ :: rest) E H K =
    nilV C ops rest d E H K op (tyI C.P t).kind (evA C.gl E x) (binA C.P op t true (evA C.gl E x) (.s (.slice none 0 0))) := by
  show nilVC C d op (tyI C.P t).kind (evA C.gl E x) (binA C.P op t (isConst x || true) (evA C.gl E x) (.s (.slice none 0 0))) E H (fun E' H' => opsVC C ops rest E' H' K) = _
  rw [Bool.or_true]
  generalize binA C.P op t true (evA C.gl E x) (.s (.slice none 0 0)) = r
  generalize (tyI C.P t).kind = k
  generalize evA C.gl E x = v
  unfold nilVC nilV
  generalize eqOp op = f
  cases r <;> cases k <;> cases v <;> cases f <;> rfl
theorem nilV_lst (op : BinOp) (e : TypeId) (sz : Nat) (es : List AV) (o : Option (Nat × Own)) (r : Option AV) : nilV C ops rest d E H K op (.slice e) (.lst sz es o) r = match eqOp op with
    | some f => d < C.N ∧ ∀ t, (t = true → es = []) → opsVC C ops rest (upd E d (.s (.bool (f t)))) H K
    | none => stepV C ops rest d E H K r := by
  unfold nilV
  cases eqOp op <;> rfl
theorem nilV_s (op : BinOp) (k : TK) (v : Value) (r : Option AV) : nilV C ops rest d E H K op k (.s v) r = stepV C ops rest d E H K r := by
  unfold nilV
  split <;> first | rfl | (rename_i h _; cases h)

/-! maps, texts that are gone over, empty lists -/
theorem o_makeMap (t : TypeId) : opsVC C ops (⟨some d, .makeMap t none, ty, pos, after, none⟩ :: rest) E H K = (d < C.N ∧ ∀ b, opsVC C ops rest (upd E d (.s (.map (some b)))) ((d, .mp b []) :: erase d H) K) := rfl
theorem o_lookup (t : TypeId) (x k : Operand) (comma : Bool) : opsVC C ops (⟨some d, .lookup t x k comma, ty, pos, after, none⟩ :: rest) E H K = stepV C ops rest d E H K (lookupA C.P H t (evA C.gl E x) (evA C.gl E k) comma) := by
  show (match some d, lookupA C.P H t (evA C.gl E x) (evA C.gl E k) comma with | some d, some v => d < C.N ∧ opsVC C ops rest (upd E d v) H K | _, _ => False) = _
  cases lookupA C.P H t (evA C.gl E x) (evA C.gl E k) comma <;> rfl
def mapV (k : TK) (m key x : AV) : Prop := match k, m, key with
  | .map kt _, .s (.map (some b)), .s (.string kb) => (tyI C.P kt).kind = .str ∧ (match findMpL b H with
    | some (l, es) => lookS kb.data.toList es = some none ∧ opsVC C ops rest E ((l, .mp b (es ++ [(.string kb, x)])) :: erase l H) K
    | none => False)
  | _, _, _ => False
theorem o_mapUpdate (t : TypeId) (m k x : Operand) : opsVC C ops (⟨none, .mapUpdate t m k x, ty, pos, after, none⟩ :: rest) E H K = mapV C ops rest E H K (tyI C.P t).kind (evA C.gl E m) (evA C.gl E k) (evA C.gl E x) := by
  show ((none : Option Tmp) = none ∧ mapVC C t (evA C.gl E m) (evA C.gl E k) (evA C.gl E x) E H (fun E' H' => opsVC C ops rest E' H' K)) = _
  simp only [true_and]
  rfl
def mapW (b : Nat) (kb : ByteArray) (x : AV) (r : Option (Nat × List (Value × AV))) : Prop := match r with
  | some (l, es) => lookS kb.data.toList es = some none ∧ opsVC C ops rest E ((l, .mp b (es ++ [(.string kb, x)])) :: erase l H) K
  | none => False
theorem mapV_own (kt e : TypeId) (b : Nat) (kb : ByteArray) (x : AV) : mapV C ops rest E H K (.map kt e) (.s (.map (some b))) (.s (.string kb)) x = ((tyI C.P kt).kind = .str ∧ mapW C ops rest E H K b kb x (findMpL b H)) := rfl
theorem mapW_some (b : Nat) (kb : ByteArray) (x : AV) (l : Nat) (es : List (Value × AV)) : mapW C ops rest E H K b kb x (some (l, es)) = (lookS kb.data.toList es = some none ∧ opsVC C ops rest E ((l, .mp b (es ++ [(.string kb, x)])) :: erase l H) K) := rfl
def rangeV (k : TK) (x : AV) : Prop := match k, x with
  | .str, .s (.string s) => d < C.N ∧ ∀ b, opsVC C ops rest (upd E d (.ptr d b 0)) ((d, .iter b s 0) :: erase d H) K
  | _, _ => False
theorem o_range (t : TypeId) (x : Operand) : opsVC C ops (⟨some d, .range t x, ty, pos, after, none⟩ :: rest) E H K = rangeV C ops rest d E H K (tyI C.P t).kind (evA C.gl E x) := rfl
theorem rangeV_str (s : ByteArray) : rangeV C ops rest d E H K .str (.s (.string s)) = (d < C.N ∧ ∀ b, opsVC C ops rest (upd E d (.ptr d b 0)) ((d, .iter b s 0) :: erase d H) K) := rfl
def nextV (it : AV) : Prop := match it with
  | .ptr l b 0 => match find l H with
    | some (.iter b' s pos) => b' = b ∧ d < C.N ∧ opsVC C ops rest (upd E d (nextA s pos).1) ((l, .iter b s (nextA s pos).2) :: erase l H) K
    | _ => False
  | _ => False
def nextW (l b : Nat) (r : Option Res) : Prop := match r with
  | some (.iter b' s pos) => b' = b ∧ d < C.N ∧ opsVC C ops rest (upd E d (nextA s pos).1) ((l, .iter b s (nextA s pos).2) :: erase l H) K
  | _ => False
theorem o_next (it : Operand) : opsVC C ops (⟨some d, .next it true, ty, pos, after, none⟩ :: rest) E H K = nextV C ops rest d E H K (evA C.gl E it) := by
  show (true = true ∧ nextVC C d (evA C.gl E it) E H (fun E' H' => opsVC C ops rest E' H' K)) = _
  simp only [true_and]
  rfl
theorem nextV_ptr (l b : Nat) : nextV C ops rest d E H K (.ptr l b 0) = nextW C ops rest d E H K l b (find l H) := rfl
theorem nextW_iter (l b b' : Nat) (s : ByteArray) (pos : Nat) : nextW C ops rest d E H K l b (some (.iter b' s pos)) = (b' = b ∧ d < C.N ∧ opsVC C ops rest (upd E d (nextA s pos).1) ((l, .iter b s (nextA s pos).2) :: erase l H) K) := rfl
def makeV (k : TK) (l c : AV) : Prop := match k, l, c with
  | .slice e, .s (.int _ n), .s (.int _ c) => d < C.N ∧ n = 0 ∧ 0 < (tyI C.P e).size ∧ (tyI C.P e).zero.length = (tyI C.P e).size ∧ 0 ≤ c ∧ ((tyI C.P e).bytes : Int) * c ≤ 281474976710656 ∧ c ≤ 9223372036854775807 ∧
      ∀ q, opsVC C ops rest (upd E d (.lst (tyI C.P e).size [] (some (d, q)))) ((d, .own e (tyI C.P e).size 0 q) :: erase d H) K
  | _, _, _ => False
theorem o_makeSlice (t : TypeId) (l c : Operand) : opsVC C ops (⟨some d, .makeSlice t l c, ty, pos, after, none⟩ :: rest) E H K = makeV C ops rest d E H K (tyI C.P t).kind (evA C.gl E l) (evA C.gl E c) := rfl
theorem makeV_int (e : TypeId) (k : IntKind) (n : Int) (k' : IntKind) (c : Int) : makeV C ops rest d E H K (.slice e) (.s (.int k n)) (.s (.int k' c)) = (d < C.N ∧ n = 0 ∧ 0 < (tyI C.P e).size ∧ (tyI C.P e).zero.length = (tyI C.P e).size ∧ 0 ≤ c ∧ ((tyI C.P e).bytes : Int) * c ≤ 281474976710656 ∧ c ≤ 9223372036854775807 ∧
      ∀ q, opsVC C ops rest (upd E d (.lst (tyI C.P e).size [] (some (d, q)))) ((d, .own e (tyI C.P e).size 0 q) :: erase d H) K) := rfl
theorem o_unOp (op : UnOp) (t : TypeId) (x : Operand) : opsVC C ops (⟨some d, .unOp op t x, ty, pos, after, none⟩ :: rest) E H K = stepV C ops rest d E H K (unA op (evA C.gl E x)) := by
  show (match some d, unA op (evA C.gl E x) with | some d, some v => d < C.N ∧ opsVC C ops rest (upd E d v) H K | _, _ => False) = _
  cases unA op (evA C.gl E x) <;> rfl
theorem o_convert (s t : TypeId) (x : Operand) : opsVC C ops (⟨some d, .convert s t x, ty, pos, after, none⟩ :: rest) E H K = stepV C ops rest d E H K ((convA C.P s t (evA C.gl E x)).or (strToBytes C.P s t (evA C.gl E x))) := by
  show (match some d, convA C.P s t (evA C.gl E x), strToBytes C.P s t (evA C.gl E x) with | some k, some v, _ => k < C.N ∧ opsVC C ops rest (upd E k v) H K | some k, none, some v => k < C.N ∧ opsVC C ops rest (upd E k v) H K | _, _, _ => False) = _
  cases convA C.P s t (evA C.gl E x) <;> cases strToBytes C.P s t (evA C.gl E x) <;> rfl
theorem o_mkiface (t : TypeId) (x : Operand) : opsVC C ops (⟨some d, .makeInterface t x, ty, pos, after, none⟩ :: rest) E H K = stepV C ops rest d E H K (mkifaceA C.P t (evA C.gl E x)) := by
  show (match some d, mkifaceA C.P t (evA C.gl E x) with | some d, some v => d < C.N ∧ opsVC C ops rest (upd E d v) H K | _, _ => False) = _
  cases mkifaceA C.P t (evA C.gl E x) <;> rfl
theorem o_makeFunc (f : Fn) (fi ca : Array Operand) : opsVC C ops (⟨some d, .makeFunc f fi ca, ty, pos, after, none⟩ :: rest) E H K = (d < C.N ∧ opsVC C ops rest (upd E d (.fn f (fi.toList.map (evA C.gl E)) (ca.toList.map (evA C.gl E)))) H K) := rfl
theorem o_slice (t : TypeId) (x : Operand) (lo hi mx : Option Operand) : opsVC C ops (⟨some d, .slice t x lo hi mx, ty, pos, after, none⟩ :: rest) E H K = stepV C ops rest d E H K (sliceA C.P t (evA C.gl E x) (lo.map (evA C.gl E)) (hi.map (evA C.gl E)) (mx.map (evA C.gl E))) := by
  show (match some d, sliceA C.P t (evA C.gl E x) (lo.map (evA C.gl E)) (hi.map (evA C.gl E)) (mx.map (evA C.gl E)) with | some d, some v => d < C.N ∧ opsVC C ops rest (upd E d v) H K | _, _ => False) = _
  cases sliceA C.P t (evA C.gl E x) (lo.map (evA C.gl E)) (hi.map (evA C.gl E)) (mx.map (evA C.gl E)) <;> rfl
theorem o_fieldAddr (t : TypeId) (x : Operand) (f : Nat) : opsVC C ops (⟨some d, .fieldAddr t x f, ty, pos, after, none⟩ :: rest) E H K = stepV C ops rest d E H K (fieldAddrA (tyI C.P t) f (evA C.gl E x)) := by
  show (match some d, fieldAddrA (tyI C.P t) f (evA C.gl E x) with | some d, some v => d < C.N ∧ opsVC C ops rest (upd E d v) H K | _, _ => False) = _
  cases fieldAddrA (tyI C.P t) f (evA C.gl E x) <;> rfl
theorem o_indexAddr (t : TypeId) (x i : Operand) : opsVC C ops (⟨some d, .indexAddr t x i, ty, pos, after, none⟩ :: rest) E H K = stepV C ops rest d E H K (indexAddrA C.P t (evA C.gl E x) (evA C.gl E i)) := by
  show (match some d, indexAddrA C.P t (evA C.gl E x) (evA C.gl E i) with | some d, some v => d < C.N ∧ opsVC C ops rest (upd E d v) H K | _, _ => False) = _
  cases indexAddrA C.P t (evA C.gl E x) (evA C.gl E i) <;> rfl
theorem o_index (t : TypeId) (x i : Operand) : opsVC C ops (⟨some d, .index t x i, ty, pos, after, none⟩ :: rest) E H K = stepV C ops rest d E H K (indexA C.P t (evA C.gl E x) (evA C.gl E i)) := by
  show (match some d, indexA C.P t (evA C.gl E x) (evA C.gl E i) with | some d, some v => d < C.N ∧ opsVC C ops rest (upd E d v) H K | _, _ => False) = _
  cases indexA C.P t (evA C.gl E x) (evA C.gl E i) <;> rfl
theorem o_extract (x : Operand) (i : Nat) : opsVC C ops (⟨some d, .extract x i, ty, pos, after, none⟩ :: rest) E H K = stepV C ops rest d E H K (extractA i (evA C.gl E x)) := by
  show (match some d, extractA i (evA C.gl E x) with | some d, some v => d < C.N ∧ opsVC C ops rest (upd E d v) H K | _, _ => False) = _
  cases extractA i (evA C.gl E x) <;> rfl
theorem o_build (t : TypeId) (parts : Array (Nat × Operand)) : opsVC C ops (⟨some d, .build t parts, ty, pos, after, none⟩ :: rest) E H K = stepV C ops rest d E H K (buildA C.P t (parts.toList.map fun x => (x.1, evA C.gl E x.2))) := by
  show (match some d, buildA C.P t (parts.toList.map fun x => (x.1, evA C.gl E x.2)) with | some d, some v => d < C.N ∧ opsVC C ops rest (upd E d v) H K | _, _ => False) = _
  cases buildA C.P t (parts.toList.map fun x => (x.1, evA C.gl E x.2)) <;> rfl
theorem o_len (x : Operand) (t : TypeId) : opsVC C ops (⟨some d, .call { callee := .builtin .len, args := #[x], argTypes := #[t] }, ty, pos, after, none⟩ :: rest) E H K = stepV C ops rest d E H K (lenA C.P t (evA C.gl E x)) := by
  show (match some d, lenA C.P t (evA C.gl E x) with | some d, some v => d < C.N ∧ opsVC C ops rest (upd E d v) H K | _, _ => False) = _
  cases lenA C.P t (evA C.gl E x) <;> rfl
theorem o_min (x y : Operand) (ts : Array TypeId) : opsVC C ops (⟨some d, .call { callee := .builtin .min, args := #[x, y], argTypes := ts }, ty, pos, after, none⟩ :: rest) E H K = stepV C ops rest d E H K (minA (evA C.gl E x) (evA C.gl E y)) := by
  show (match some d, minA (evA C.gl E x) (evA C.gl E y) with | some d, some v => d < C.N ∧ opsVC C ops rest (upd E d v) H K | _, _ => False) = _
  cases minA (evA C.gl E x) (evA C.gl E y) <;> rfl
theorem o_alloc (t : TypeId) : opsVC C ops (⟨some d, .alloc t, ty, pos, after, none⟩ :: rest) E H K = (d < C.N ∧ (tyI C.P t).zero.length ≠ 0 ∧ (tyI C.P t).zero.all Value.oneCell' = true ∧ ∀ b, opsVC C ops rest (upd E d (.ptr d b 0)) ((d, .box b t ((tyI C.P t).zero.map .s)) :: erase d H) K) := rfl
theorem o_box (t : TypeId) (x : Operand) : opsVC C ops (⟨some d, .box t x, ty, pos, after, none⟩ :: rest) E H K = boxV C ops rest d E H K t (evA C.gl E x) (C.mu.contains d) := rfl
theorem o_bsl (t : TypeId) (n : Nat) (parts : Array (Nat × Operand)) : opsVC C ops (⟨some d, .buildSlice t n parts, ty, pos, after, none⟩ :: rest) E H K = bslV C ops rest d E H K n (C.mu.contains d) (bslA C.P t n (parts.toList.map fun x => (x.1, evA C.gl E x.2))) := by
  show (match some d, bslA C.P t n (parts.toList.map fun x => (x.1, evA C.gl E x.2)) with | some d, some (e, es) => d < C.N ∧ n ≤ maxLen ∧ (if C.mu.contains d = true then ∀ q, opsVC C ops rest (upd E d (.lst (tyI C.P e).size es (some (d, q)))) ((d, .own e (tyI C.P e).size es.length q) :: erase d H) K else opsVC C ops rest (upd E d (.lst (tyI C.P e).size es none)) H K) | _, _ => False) = _
  cases bslA C.P t n (parts.toList.map fun x => (x.1, evA C.gl E x.2)) with
  | none => rfl
  | some x => cases x; rfl
theorem o_store (t : TypeId) (p x : Operand) : opsVC C ops (⟨none, .store t p x, ty, pos, after, none⟩ :: rest) E H K = storeV C ops rest E H K (evA C.gl E x) (evA C.gl E p) (tyI C.P t).size := by
  show (match evA C.gl E p with
    | .ptr l b off => match find l H with
      | some (.box b' T cs) => b' = b ∧ (evA C.gl E x).ones = true ∧ (evA C.gl E x).cells.length = (tyI C.P t).size ∧ 0 < (tyI C.P t).size ∧ off + (evA C.gl E x).cells.length ≤ cs.length ∧ (none : Option Tmp) = none ∧
          opsVC C ops rest E ((l, .box b T (putCells cs off (evA C.gl E x).cells)) :: erase l H) K
      | _ => False
    | _ => False) = _
  cases evA C.gl E p <;> simp only [storeV]
  cases find _ H with
  | none => rfl
  | some r => cases r <;> simp
theorem o_append (x y : Operand) (t tx : TypeId) : opsVC C ops (⟨some d, .call { callee := .builtin .append, args := #[x, y], argTypes := #[t, tx] }, ty, pos, after, none⟩ :: rest) E H K =
    app1 C ops rest d E H K (tyI C.P t).kind (tyI C.P tx).kind (evA C.gl E x) (evA C.gl E y) := by
  show appendVC C d t tx (evA C.gl E x) (evA C.gl E y) E H (fun E' H' => opsVC C ops rest E' H' K) = _
  unfold appendVC app1
  cases (tyI C.P t).kind with
  | slice e =>
    simp only
    congr 4
  | _ => rfl
theorem o_call (f : FuncId) (args : Array Operand) (tys : Array TypeId) : opsVC C ops (⟨some d, .call { callee := .value (.func f), args, argTypes := tys }, ty, pos, after, none⟩ :: rest) E H K =
    (((C.P.funcs[f]?).map fun fn => (fn.name == "runtime.NumGoroutine", fn.body.isSome)) = some (false, true) ∧ CallsA C.P C.gl f (args.toList.map (evA C.gl E)) H (contR C ops rest E K (some d))) := by
  show ((#[] : Array Value).size = 0 ∧ (#[] : Array Value).size = 0 ∧ _ ∧ CallsA C.P C.gl f (args.toList.map (evA C.gl E)) H (contR C ops rest E K (some d))) = _
  simp
theorem o_call0 (f : FuncId) (args : Array Operand) (tys : Array TypeId) : opsVC C ops (⟨none, .call { callee := .value (.func f), args, argTypes := tys }, ty, pos, after, none⟩ :: rest) E H K =
    (((C.P.funcs[f]?).map fun fn => (fn.name == "runtime.NumGoroutine", fn.body.isSome)) = some (false, true) ∧ CallsA C.P C.gl f (args.toList.map (evA C.gl E)) H (contR C ops rest E K none)) := by
  show ((#[] : Array Value).size = 0 ∧ (#[] : Array Value).size = 0 ∧ _ ∧ CallsA C.P C.gl f (args.toList.map (evA C.gl E)) H (contR C ops rest E K none)) = _
  simp

/-! calls of function values -/
def callX (dst : Option Nat) (args : List AV) (v : AV) : Prop := match v with
    | .s (.func (.func f) fi ca) => fi.size = 0 ∧ ca.size = 0 ∧ ((C.P.funcs[f]?).map fun fn => (fn.name == "runtime.NumGoroutine", fn.body.isSome)) = some (false, true) ∧ CallsA C.P C.gl f args H (contR C ops rest E K dst)
    | .fn (.func f) fi ca => fi.length = 0 ∧ ((C.P.funcs[f]?).map fun fn => (fn.name == "runtime.NumGoroutine", fn.body.isSome)) = some (false, true) ∧ CallsA C.P C.gl f (args ++ ca) H (contR C ops rest E K dst)
    | _ => False
theorem callX_fn (dst : Option Nat) (args : List AV) (f : FuncId) (fi ca : List AV) : callX C ops rest E H K dst args (.fn (.func f) fi ca) = (fi.length = 0 ∧ ((C.P.funcs[f]?).map fun fn => (fn.name == "runtime.NumGoroutine", fn.body.isSome)) = some (false, true) ∧
    CallsA C.P C.gl f (args ++ ca) H (contR C ops rest E K dst)) := rfl
theorem callX_s (dst : Option Nat) (args : List AV) (f : FuncId) : callX C ops rest E H K dst args (.s (.func (.func f) #[] #[])) = (((C.P.funcs[f]?).map fun fn => (fn.name == "runtime.NumGoroutine", fn.body.isSome)) = some (false, true) ∧
    CallsA C.P C.gl f args H (contR C ops rest E K dst)) := by
  show ((#[] : Array Value).size = 0 ∧ (#[] : Array Value).size = 0 ∧ _ ∧ _) = _
  simp
theorem o_callx (t : Tmp) (args : Array Operand) (tys : Array TypeId) (dst : Option Nat) : opsVC C ops (⟨dst, .call { callee := .value (.tmp t), args, argTypes := tys }, ty, pos, after, none⟩ :: rest) E H K =
    callX C ops rest E H K dst (args.toList.map (evA C.gl E)) (E t) := rfl

/-! guards -/
def guardV (o : Oper) (d g : Nat) (want : Bool) (v : AV) : Prop := match v with
  | .s (.bool x) => (x = want → opVC C o (upd E g (.s (.bool want))) H fun E' H' => opsVC C ops rest E' H' K) ∧ (x = !want → d < C.N ∧ opsVC C ops rest (upd (upd E g (.s (.bool (!want)))) d undefA) H K)
  | .s (.tuple _) => d < C.N ∧ opsVC C ops rest (upd E d undefA) H K
  | _ => False
theorem o_guard (op : Op) (j : Nat) (want : Bool) (g : Nat) (hg : (ops[j]?).bind (·.dst) = some g) : opsVC C ops (⟨some d, op, ty, pos, after, some (j, want)⟩ :: rest) E H K = guardV C ops rest E H K ⟨some d, op, ty, pos, after, none⟩ d g want (E g) := by
  simp only [opsVC, hg, guardV]
  cases E g with
  | s v => cases v <;> rfl
  | _ => rfl
theorem guardV_yes (o : Oper) (d g : Nat) (want : Bool) (ho : o.guard = none) : guardV C ops rest E H K o d g want (.s (.bool want)) = opsVC C ops (o :: rest) (upd E g (.s (.bool want))) H K := by
  show ((want = want → _) ∧ (want = !want → _)) = _
  obtain ⟨dst, op, ty, pos, after, gd⟩ := o
  simp only at ho
  subst ho
  apply propext
  constructor
  · intro h; exact h.1 rfl
  · intro h; exact ⟨fun _ => h, fun h' => absurd h' (by cases want <;> simp)⟩
theorem guardV_no (o : Oper) (d g : Nat) (x want : Bool) (h : x ≠ want) : guardV C ops rest E H K o d g want (.s (.bool x)) = (d < C.N ∧ opsVC C ops rest (upd (upd E g (.s (.bool x))) d undefA) H K) := by
  have hx : x = !want := by cases x <;> cases want <;> simp_all
  subst hx
  show (((!want) = want → _) ∧ ((!want) = !want → _)) = _
  apply propext
  constructor
  · intro h'; exact h'.2 rfl
  · intro h'; exact ⟨fun e => absurd e h, fun _ => h'⟩
theorem guardV_undef (o : Oper) (d g : Nat) (want : Bool) : guardV C ops rest E H K o d g want undefA = (d < C.N ∧ opsVC C ops rest (upd E d undefA) H K) := rfl
theorem guardV_any (o : Oper) (d g : Nat) (x want : Bool) (ho : o.guard = none) : guardV C ops rest E H K o d g want (.s (.bool x)) =
    ((x = want → opsVC C ops (o :: rest) (upd E g (.s (.bool want))) H K) ∧ (x = !want → d < C.N ∧ opsVC C ops rest (upd (upd E g (.s (.bool (!want)))) d undefA) H K)) := by
  obtain ⟨dst, op, ty, pos, after, gd⟩ := o
  simp only at ho
  subst ho
  rfl

theorem ev_tmp (gl : Nat → AV) (t : Nat) : evA gl E (.tmp t) = E t := rfl
theorem ev_const (gl : Nat → AV) (v : Value) : evA gl E (.const v) = .s v := rfl
theorem ev_global (gl : Nat → AV) (t : Nat) : evA gl E (.global t) = gl t := rfl
theorem upd_same (v : AV) : upd E d v d = v := by simp [upd]
theorem upd_other (v : AV) (i : Nat) (h : ¬ i = d) : upd E d v i = E i := by simp [upd, h]
theorem argE_zero (x : AV) (l : List AV) : argE (x :: l) 0 = x := rfl
end
end Go.Proofs.YtjhnabdcmfjeoaaGreatDoor.Ab
