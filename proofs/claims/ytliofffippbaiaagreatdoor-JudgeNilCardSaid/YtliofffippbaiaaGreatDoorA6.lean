/- Loops over functions; all code. -/
import Derived.Test.YtliofffippbaiaaGreatDoorA5
import Derived.Below
set_option linter.unusedSimpArgs false
set_option linter.unusedVariables false
namespace Go.Ab
open Go
section
variable {P : Program} {fn : FuncId} {rd : Option Nat} {tm : Array Value} {df : List Deferred} {k : List Item} {cs : List Frame} {w : World}

theorem s_rfunc {f : Operand} {params : Array Tmp} {asg body : Code} {l : Nat} {mark : List Deferred} {w1 : World} {g : FuncId} {args : Array Value}
    (h1 : (Instr.enterLoop fn tm params asg body rd).run P w = .ok (l, mark) w1)
    (h2 : (do let d ← resolve (actOf tm).eval { callee := .value f, args := #[.const (.func (.yield l) #[] #[])], argTypes := #[] } 0; invoke d.target d.args : Sem Next).run P w1 = .ok (.enter g args) w1) :
    Go.Steps P (lone (Fr fn rd tm df (.code (.rangeFunc f params asg body) :: k)) cs w) (lone (Frame.enter P g args .normal) (Fr fn rd tm (mark ++ df) (.inRangeFunc l :: k) :: cs) w1) := by
  refine .one (step_lone_go ?_)
  have he := Fr_eval fn rd tm (mark ++ df) (.inRangeFunc l :: k)
  simp only [Fr] at he
  simp only [stepG, stepG.exec, Fr, Sem.runT_eq, h1, stepG.apply, he, h2]
  simp
theorem s_endRfunc {l : Nat} {jump : Option Code} {w1 : World} (h1 : (Instr.endLoop l).run P w = .ok jump w1) :
    Go.Steps P (lone (Fr fn rd tm df (.endRangeFunc l :: k)) cs w) (lone (Fr fn rd tm df ((jump.map Item.code).toList ++ k)) cs w1) := by
  refine .one (step_lone_go ?_)
  simp only [stepG, stepG.exec, Fr, Sem.runT_eq, h1]
  simp

/-- an object that belongs to nobody -/
theorem push_step {ι : Io} {H : Hp} (hH : HRel P ι H w) (o : Obj) (nx : S) : HRel P ι H { w with heap := w.heap.push o } ∧ St ι H nx nx w ι H { w with heap := w.heap.push o } := by
  refine ⟨⟨fun b ob hb r p q hi => ?_, hH.inj⟩, ⟨rfl, rfl, rfl, by simp, Io.le_refl _, fun _ _ => rfl, fun r hr _ => ?_, fun b ob r p q hb hi _ => ⟨b, ob, p, q, hb, hi⟩, fun _ _ _ => rfl, Nat.le_refl _⟩⟩
  · have h1 := hH.lt hb hi
    have : (w.heap.push o)[r]? = w.heap[r]? := by rw [Array.getElem?_push]; simp; omega
    show ORel P ι ob p q (w.heap.push o)[r]?
    rw [this]; exact hH.obj b ob hb r p q hi
  · show (w.heap.push o)[r]? = w.heap[r]?
    rw [Array.getElem?_push]; simp; omega

theorem rfunc_run {call : Caller} (hc : CallOK P call) (hcw : CallWF call) (fuel : Nat) {f : Operand} {params : Array Tmp} {asg body : Code} {f' : Opd} {ag bd : C} {N : Nat} (hf : cOpd f = some f') (ha : cCode P N asg = some ag) (hb : cCode P N body = some bd)
    (hps : ∀ d ∈ params.toList, d < N) (hna : ag.noRf = true) (hnb : bd.noRf = true) : CodeOK P fn none N (.rangeFunc f params asg body) false (evalC call fuel (.rfunc f' (params.toList.map S.ofNat) ag bd)) := by
  intro sz k cs df e e' nx nx' H H' x ι tm w hr he htm hH hwf hfr hdf
  subst htm
  simp only [evalC] at hr
  split at hr
  case h_2 => simp at hr
  rename_i v nx1 H2 h1
  unfold rangeA at h1
  split at h1
  case h_2 => simp at h1
  rename_i g first capt hfe
  split at hr
  case h_2 => simp at hr
  rename_i st pend e2 ps ag2 bd2 hg
  split at hr
  case isTrue => simp at hr
  rename_i hst
  -- what is made
  let lp : Loop := { state := .ready, pending := none, fn, tmps := tm, params, assign := asg, body, defers := w.heap.size }
  let w0 : World := { w with heap := w.heap.push (.deferred (some [])) }
  let w1 : World := { w0 with heap := w0.heap.push (.loop lp), drawn := w0.drawn }
  have hE : (Instr.enterLoop fn tm params asg body none).run P w = .ok (w.heap.size + 1, [{ target := .collected w.heap.size, args := #[] }]) w1 := by
    simp [Instr.enterLoop, newObj, Sem.run, bind, Sem.bind, pure, w1, w0, lp]
    rfl
  have x1 := hcw _ _ _ _ _ _ _ h1
  have hn1 : nx.toNat < nx.succ.toNat := by rw [S.toNat_succ]; omega
  have hres : nx' = nx1 ∧ e = e' ∧ H' = H2.set nx (.loop .exhausted pend e2 ps ag2 bd2) ∧ (match (generalizing := false) x with | .norm => pend = none | .ret => pend = some .ret | .exit id => pend = some (.exit id)) := by
    split at hr <;> simp at hr <;> (obtain ⟨rfl, rfl, rfl, rfl⟩ := hr; exact ⟨rfl, rfl, rfl, rfl⟩)
  obtain ⟨rfl, rfl, rfl, hx⟩ := hres
  have hid : ι nx = none := hfr nx (Nat.le_refl _) (by have := x1.1; omega)
  obtain ⟨p1, p2⟩ := push_step hH (.deferred (some [])) nx
  have hsz0 : w0.heap.size = w.heap.size + 1 := by simp [w0]
  obtain ⟨q1, q2⟩ := alloc_step (w := w0) p1 hid (ob := .loop .ready none e (params.toList.map S.ofNat) ag bd) (o := .loop lp) (q := 0)
    ⟨none, fn, tm, params, asg, body, w.heap.size, rfl, rfl, he.mono (Io.le_add hid), rfl, hps, ha, hb, hna, hnb⟩ w0.drawn
  have hw1f : Wf (H.set nx (.loop .ready none e (params.toList.map S.ofNat) ag bd)) nx.succ := (Ext.new _).wf hwf
  have hfv := cOpd_rel (a := actOf tm) he hf
  rw [hfe] at hfv
  obtain ⟨vs, ws, hv1, hv2, hv3⟩ := hfv
  have hioN : (ι.add nx (w0.heap.size, 0, 0)) nx = some (w.heap.size + 1, 0, 0) := by simp [Io.add, hsz0]
  have hvs : VRels (ι.add nx (w0.heap.size, 0, 0)) (first ++ [.yield nx] ++ capt) ((vs ++ #[Value.func (.yield (w.heap.size + 1)) #[] #[]]) ++ ws).toList := by
    have hy : VRels (ι.add nx (w0.heap.size, 0, 0)) [.yield nx] [.func (.yield (w.heap.size + 1)) #[] #[]] := ⟨_, _, rfl, ⟨_, _, hioN, rfl⟩, rfl⟩
    have := ((hv2.mono (Io.le_add hid)).append hy).append (hv3.mono (Io.le_add hid))
    simpa using this
  obtain ⟨⟨fd, f1, f2, f3⟩, hcr⟩ := hc (.fn g) _ _ _ _ _ _ h1 _ w1 _ hvs q1 hw1f (fun b h2 h3 => by
    unfold Io.add
    rw [if_neg (by rintro rfl; omega)]
    exact hfr b (by omega) h3)
  obtain ⟨ι2, w2, u, g1, g2, g3, g4⟩ := hcr (Fr fn none tm ([{ target := .collected w.heap.size, args := #[] }] ++ df) (.inRangeFunc (w.heap.size + 1) :: k)) cs
  have hio2 : ι2 nx = some (w.heap.size + 1, 0, 0) := g4.le _ _ hioN
  obtain ⟨pd, fn2, tmps2, params2, asg2, body2, defers2, o1, o2, o3⟩ := g3.obj nx _ hg _ _ _ hio2
  have hend : (Instr.endLoop (w.heap.size + 1)).run P w2 = .ok pd { w2 with heap := w2.heap.setIfInBounds (w.heap.size + 1) (.loop { state := .exhausted, pending := pd, fn := fn2, tmps := tmps2, params := params2, assign := asg2, body := body2, defers := defers2 }) } := by
    unfold Instr.endLoop Instr.getLoop
    have hst' : (st == LoopState.busy) = false := by cases st <;> simp at hst ⊢
    simp only [Sem.run_bind]
    have : (getObj (w.heap.size + 1)).run P w2 = .ok (.loop { state := st, pending := pd, fn := fn2, tmps := tmps2, params := params2, assign := asg2, body := body2, defers := defers2 }) w2 := by simp [getObj, Sem.run, o1]
    rw [this]
    simp only [Result.andThen_ok, Sem.run_pure, hst']
    simp only [Bool.false_eq_true, if_false, Sem.run_bind]
    rw [run_setMap o1 (by simp)]
    rfl
  have hlt2 := g3.lt hg hio2
  obtain ⟨r1, r2⟩ := write_step g3 hg hio2 (ob' := .loop .exhausted pend e2 ps ag2 bd2) (w' := { w2 with heap := w2.heap.setIfInBounds (w.heap.size + 1) (.loop { state := .exhausted, pending := pd, fn := fn2, tmps := tmps2, params := params2, assign := asg2, body := body2, defers := defers2 }) })
    ⟨pd, fn2, tmps2, params2, asg2, body2, defers2, by simp [hlt2], o2, o3⟩ (by simp) (fun r hr => by
      simp only [Array.getElem?_setIfInBounds]; rw [if_neg (fun e => hr e.symm)]) rfl rfl rfl (nx := nx') (nx' := nx') (Nat.le_refl _)
  have hst1 : St ι H nx nx.succ w (ι.add nx (w0.heap.size, 0, 0)) _ w1 := p2.trans q2
  have hdf1 : DfOK sz (ι.add nx (w0.heap.size, 0, 0)) (H.set nx (.loop .ready none e (params.toList.map S.ofNat) ag bd)) w1 ([{ target := .collected w.heap.size, args := #[] }] ++ df) := by
    have hd0 := hdf.step hst1
    refine ⟨hd0.1, fun d hd => ?_, ?_⟩
    · simp only [List.singleton_append, List.mem_cons] at hd
      rcases hd with rfl | hd
      · refine ⟨w.heap.size, rfl, hdf.1, by simp [w1, w0]; omega, by simp [w1, w0, Array.getElem?_push], fun b ob p q hb hi => ?_⟩
        unfold Io.add at hi
        rw [Tr.get_set] at hb
        by_cases hbn : b = nx
        · rw [if_pos hbn] at hi; simp [hsz0] at hi
        · rw [if_neg hbn] at hi hb
          have := hH.lt hb hi; omega
      · exact hd0.2.1 d hd
    · simp only [List.singleton_append, List.nodup_cons]
      refine ⟨fun hm => ?_, hdf.2.2⟩
      obtain ⟨r, h2, _, h3, _⟩ := hdf.2.1 _ hm
      simp at h2; omega
  refine ⟨ι2, _, tm, _, After.pre (.trans (s_rfunc (args := (vs ++ #[Value.func (.yield (w.heap.size + 1)) #[] #[]]) ++ ws) hE ?_) (.trans g1 (s_endRfunc hend))) ?_, rfl, he.mono ((hst1.trans g4).trans r2).le, r1, (hst1.trans g4).trans r2, (hdf1.step g4).step r2, by simp⟩
  · have e1 : Array.map (actOf tm).eval #[Operand.const (Value.func (.yield (w.heap.size + 1)) #[] #[])] = #[Value.func (.yield (w.heap.size + 1)) #[] #[]] := by simp [Act.eval]
    simp only [resolve, hv1, Deferred.ofValue, pure_bind, invoke, e1]
    exact run_callFunc f1 f2 f3
  · cases x with
    | norm => simp only at hx; subst hx; simp only [PendRel] at o2; subst o2; exact .refl _ _
    | ret => simp only at hx; subst hx; simp only [PendRel] at o2; subst o2; exact ⟨k, .refl _ _⟩
    | exit id => simp only at hx; subst hx; simp only [PendRel] at o2; subst o2; exact ⟨k, rfl, .refl _ _⟩

theorem exitTo_block {id id' : Nat} {k : List Item} : exitTo id' (.inBlock id :: k) = if id == id' then some k else exitTo id' k := by simp [exitTo]
theorem loop_run {N : Nat} {c : Code} {nr : Bool} {f : Env → S → Hp → R} (hf : CodeOK P fn rd N c nr f) (hx : FExt f) : ∀ (n sz : Nat) (k : List Item) (cs : List Frame) (df : List Deferred) (e e' : Env) (nx nx' : S) (H H' : Hp) (x : X) (ι : Io) (tm : Array Value) (w : World),
    loopN f n e nx H = .mk x e' nx' H' → EnvRel ι e tm → tm.size = N → HRel P ι H w → Wf H nx → FreshI ι nx nx' → DfOK sz ι H w df →
    ∃ ι' w' tm' df', After P fn rd k cs (lone (Fr fn rd tm df (.code c :: .inLoop c :: k)) cs w) tm' df' w' x ∧ tm'.size = N ∧ EnvRel ι' e' tm' ∧ HRel P ι' H' w' ∧ St ι H nx nx' w ι' H' w' ∧ DfOK sz ι' H' w' df' ∧ (nr = true → df' = df)
  | 0 => fun sz k cs df e e' nx nx' H H' x ι tm w h => by simp [loopN] at h
  | n + 1 => fun sz k cs df e e' nx nx' H H' x ι tm w h he htm hH hwf hfr hdf => by
    simp only [loopN] at h
    split at h
    · rename_i e1 nx1 H1 h1
      have x1 := hx.ap h1
      have x2 := (loopN_ext hx n).ap h
      obtain ⟨ι1, w1, tm1, df1, g1, g2, g3, g4, g5, g6, g7⟩ := hf.ap (k := .inLoop c :: k) (cs := cs) h1 he htm hH hwf (fun b h2 h3 => hfr b h2 (by have := x2.1; omega)) hdf
      obtain ⟨ι2, w2, tm2, df2, k1, k2, k3, k4, k5, k6, k7⟩ := loop_run hf hx n sz k cs df1 _ _ _ _ _ _ _ _ _ _ h g3 g2 g4 (x1.wf hwf) (fun b h2 h3 => by rw [g5.out b (by omega)]; exact hfr b (by have := x1.1; omega) h3) g6
      exact ⟨ι2, w2, tm2, df2, After.pre (.trans g1 s_inLoop) k1, k2, k3, k4, g5.trans k5, k6, fun hn => (k7 hn).trans (g7 hn)⟩
    · rename_i hne
      obtain ⟨ι1, w1, tm1, df1, g1, g2⟩ := hf.ap (k := .inLoop c :: k) (cs := cs) h he htm hH hwf hfr hdf
      have hxn : x ≠ .norm := by
        rintro rfl
        exact hne _ _ _ h
      exact ⟨ι1, w1, tm1, df1, After.past hxn (by simp) g1, g2⟩

theorem code_run {call : Caller} (hm : P.follows .mixedOrders = true) (hc : CallOK P call) (hcw : CallWF call) (fuel : Nat) {N : Nat} : ∀ (c : Code) (C : C), cCode P N c = some C → (rd = none ∨ C.noRf = true) → CodeOK P fn rd N c C.noRf (evalC call fuel C)
  | .skip, C, h, _ => by
    simp [cCode] at h; subst h
    intro sz k cs df e e' nx nx' H H' x ι tm w hr he htm hH hwf hfr hdf
    simp [evalC] at hr; obtain ⟨rfl, rfl, rfl, rfl⟩ := hr
    exact ⟨ι, w, tm, df, s_skip, htm, he, hH, St.refl .., hdf, fun _ => rfl⟩
  | .ret, C, h, _ => by
    simp [cCode] at h; subst h
    intro sz k cs df e e' nx nx' H H' x ι tm w hr he htm hH hwf hfr hdf
    simp [evalC] at hr; obtain ⟨rfl, rfl, rfl, rfl⟩ := hr
    exact ⟨ι, w, tm, df, ⟨k, .refl _ _⟩, htm, he, hH, St.refl .., hdf, fun _ => rfl⟩
  | .exit id, C, h, _ => by
    simp [cCode] at h; subst h
    intro sz k cs df e e' nx nx' H H' x ι tm w hr he htm hH hwf hfr hdf
    simp [evalC] at hr; obtain ⟨rfl, rfl, rfl, rfl⟩ := hr
    exact ⟨ι, w, tm, df, ⟨k, rfl, .refl _ _⟩, htm, he, hH, St.refl .., hdf, fun _ => rfl⟩
  | .seq a b, C, h, hn => by
    simp only [cCode] at h
    split at h
    case h_2 => simp at h
    rename_i A B hA hB
    simp at h; subst h
    have hnA : rd = none ∨ A.noRf = true := hn.imp (fun h => h) fun h => by simp [C.noRf] at h; exact h.1
    have hnB : rd = none ∨ B.noRf = true := hn.imp (fun h => h) fun h => by simp [C.noRf] at h; exact h.2
    have iA := code_run hm hc hcw fuel a A hA hnA
    have iB := code_run hm hc hcw fuel b B hB hnB
    intro sz k cs df e e' nx nx' H H' x ι tm w hr he htm hH hwf hfr hdf
    simp only [evalC] at hr
    split at hr
    · rename_i e1 nx1 H1 h1
      have x1 := (evalC_ext hcw fuel A).ap h1
      have x2 := (evalC_ext hcw fuel B).ap hr
      obtain ⟨ι1, w1, tm1, df1, g1, g2, g3, g4, g5, g6, g7⟩ := iA.ap (k := .code b :: k) (cs := cs) h1 he htm hH hwf (fun b h2 h3 => hfr b h2 (by have := x2.1; omega)) hdf
      obtain ⟨ι2, w2, tm2, df2, k1, k2, k3, k4, k5, k6, k7⟩ := iB.ap (k := k) (cs := cs) (df := df1) hr g3 g2 g4 (x1.wf hwf) (fun b h2 h3 => by rw [g5.out b (by omega)]; exact hfr b (by have := x1.1; omega) h3) g6
      exact ⟨ι2, w2, tm2, df2, After.pre (.trans s_seq g1) k1, k2, k3, k4, g5.trans k5, k6, fun hn => by
        simp [C.noRf] at hn; exact (k7 hn.2).trans (g7 hn.1)⟩
    · rename_i hne
      obtain ⟨ι1, w1, tm1, df1, g1, g2, g3, g4, g5, g6, g7⟩ := iA.ap (k := .code b :: k) (cs := cs) hr he htm hH hwf hfr hdf
      have hxn : x ≠ .norm := by
        rintro rfl
        exact hne _ _ _ hr
      exact ⟨ι1, w1, tm1, df1, After.pre s_seq (After.past hxn (by simp) g1), g2, g3, g4, g5, g6, fun hn => by
        simp [C.noRf] at hn; exact g7 hn.1⟩
  | .cond c a b, C, h, hn => by
    simp only [cCode] at h
    split at h
    case h_2 => simp at h
    rename_i c' A B hc' hA hB
    simp at h; subst h
    have hnA : rd = none ∨ A.noRf = true := hn.imp (fun h => h) fun h => by simp [C.noRf] at h; exact h.1
    have hnB : rd = none ∨ B.noRf = true := hn.imp (fun h => h) fun h => by simp [C.noRf] at h; exact h.2
    have iA := code_run hm hc hcw fuel a A hA hnA
    have iB := code_run hm hc hcw fuel b B hB hnB
    intro sz k cs df e e' nx nx' H H' x ι tm w hr he htm hH hwf hfr hdf
    have hv := cOpd_rel (a := actOf tm) he hc'
    simp only [evalC] at hr
    split at hr
    · rename_i hce
      rw [hce] at hv
      obtain ⟨ι1, w1, tm1, df1, g1, g2, g3, g4, g5, g6, g7⟩ := iA.ap (k := k) (cs := cs) hr he htm hH hwf hfr hdf
      exact ⟨ι1, w1, tm1, df1, After.pre (s_cond hv) g1, g2, g3, g4, g5, g6, fun hn => by
        simp [C.noRf] at hn; exact g7 hn.1⟩
    · rename_i hce
      rw [hce] at hv
      obtain ⟨ι1, w1, tm1, df1, g1, g2, g3, g4, g5, g6, g7⟩ := iB.ap (k := k) (cs := cs) hr he htm hH hwf hfr hdf
      exact ⟨ι1, w1, tm1, df1, After.pre (s_cond hv) g1, g2, g3, g4, g5, g6, fun hn => by
        simp [C.noRf] at hn; exact g7 hn.2⟩
    · simp at hr
  | .block id c, C, h, hn => by
    simp only [cCode] at h
    split at h
    case h_2 => simp at h
    rename_i A hA
    simp at h; subst h
    have iA := code_run hm hc hcw fuel c A hA (hn.imp (fun h => h) fun h => by simpa [C.noRf] using h)
    intro sz k cs df e e' nx nx' H H' x ι tm w hr he htm hH hwf hfr hdf
    simp only [evalC] at hr
    split at hr
    · rename_i id' e1 nx1 H1 h1
      have hnx : nx1 = nx' := by split at hr <;> simp at hr <;> exact hr.2.2.1
      subst hnx
      obtain ⟨ι1, w1, tm1, df1, ⟨k1, g0, g1⟩, g2⟩ := iA.ap (k := .inBlock id :: k) (cs := cs) h1 he htm hH hwf hfr hdf
      rw [exitTo_block] at g0
      split at hr
      · rename_i hid
        simp at hr; obtain ⟨rfl, rfl, rfl⟩ := hr
        rw [if_pos (by simp [hid])] at g0
        exact ⟨ι1, w1, tm1, df1, .trans s_block (.trans g1 (s_exit g0)), g2⟩
      · rename_i hid
        simp at hr; obtain ⟨rfl, rfl, rfl⟩ := hr
        rw [if_neg (by simp; exact fun e => hid e.symm)] at g0
        exact ⟨ι1, w1, tm1, df1, ⟨k1, g0, .trans s_block g1⟩, g2⟩
    · rename_i hne
      obtain ⟨ι1, w1, tm1, df1, g1, g2⟩ := iA.ap (k := .inBlock id :: k) (cs := cs) hr he htm hH hwf hfr hdf
      refine ⟨ι1, w1, tm1, df1, ?_, g2⟩
      cases x with
      | norm => exact .trans s_block (.trans g1 s_inBlock)
      | exit id' => exact absurd hr (hne _ _ _ _)
      | ret => obtain ⟨k1, g1⟩ := g1; exact ⟨k1, .trans s_block g1⟩
  | .loop c, C, h, hn => by
    simp only [cCode] at h
    split at h
    case h_2 => simp at h
    rename_i A hA
    simp at h; subst h
    have iA := code_run hm hc hcw fuel c A hA (hn.imp (fun h => h) fun h => by simpa [C.noRf] using h)
    intro sz k cs df e e' nx nx' H H' x ι tm w hr he htm hH hwf hfr hdf
    simp only [evalC] at hr
    obtain ⟨ι1, w1, tm1, df1, g1, g2⟩ := loop_run iA (evalC_ext hcw fuel A) fuel sz k cs df _ _ _ _ _ _ _ _ _ _ hr he htm hH hwf hfr hdf
    exact ⟨ι1, w1, tm1, df1, After.pre s_loop g1, g2⟩
  | .region id ops false, C, h, _ => by
    simp only [cCode] at h
    split at h
    case h_2 => simp at h
    rename_i l hl
    simp at h; subst h
    intro sz k cs df e e' nx nx' H H' x ι tm w hr he htm hH hwf hfr hdf
    simp only [evalC] at hr
    have hx := (runOps_ext hcw hr).1
    subst hx
    obtain ⟨ι1, w1, tm1, g1, g2, g3, g4, g5⟩ := reg_run (P := P) (fn := fn) (rd := rd) (df := df) (k := k) (cs := cs) (id := id) hl hc hcw hr he htm hH hwf hfr
    exact ⟨ι1, w1, tm1, df, g1, g2, g3, g4, g5, hdf.step g5, fun _ => rfl⟩
  | .region id ops true, C, h, _ => by
    simp only [cCode, cDraw] at h
    split at h
    case h_2 => simp at h
    rename_i l hl
    split at h
    case isFalse => simp at h
    rename_i hok
    simp at h; subst h
    simp only [Bool.and_eq_true] at hok
    intro sz k cs df e e' nx nx' H H' x ι tm w hr he htm hH hwf hfr hdf
    simp only [evalC] at hr
    split at hr
    case h_2 => simp at hr
    rename_i x1 e1 nx1 H1 h1
    split at hr
    case isFalse => simp at hr
    rename_i hck
    simp at hr; obtain ⟨rfl, rfl, rfl, rfl⟩ := hr
    have hx := (runOps_ext hcw h1).1
    subst hx
    obtain ⟨ι1, w1, tm1, g1, g2, g3, g4, g5⟩ := draw_run (P := P) (fn := fn) (rd := rd) (df := df) (k := k) (cs := cs) hm (id := id) hl hok.1.1 hok.1.2 hok.2 hc hcw h1 hck he htm hH hwf hfr
    exact ⟨ι1, w1, tm1, df, g1, g2, g3, g4, g5, hdf.step g5, fun _ => rfl⟩
  | .rangeFunc f ps a b, C, h, hn => by
    simp only [cCode] at h
    split at h
    case h_2 => simp at h
    rename_i f' A B hf' hA hB
    split at h
    case isFalse => simp at h
    rename_i hok
    simp only [Bool.and_eq_true, List.all_eq_true, decide_eq_true_iff] at hok
    simp at h; subst h
    rcases hn with rfl | hn
    · exact rfunc_run hc hcw fuel hf' hA hB hok.1.1 hok.1.2 hok.2
    · simp [C.noRf] at hn
  | .goto _, C, h, _ => by simp [cCode] at h
  | .label _, C, h, _ => by simp [cCode] at h
  | .scope _, C, h, _ => by simp [cCode] at h
  | .refuse _, C, h, _ => by simp [cCode] at h
end
end Go.Ab
/- Results; a function's call. -/
set_option linter.unusedSimpArgs false
set_option linter.unusedVariables false
namespace Go.Ab
open Go
section
variable {P : Program} {ι : Io} {e : Env} {tm : Array Value} {H : Hp} {w : World}

/-- one result -/
def resG (tm : Array Value) : ResultVar → Sem Value
  | .tmp t => pure (tm.getD t undef)
  | .cell a t => do loadVar t (← asAddr (tm.getD a undef))
theorem res_run (he : EnvRel ι e tm) (hH : HRel P ι H w) : ∀ {rs : List ResultVar} {r : List (S × Option Nat)} {vs : List AV}, cRes P rs = some r → resOf e H r = some vs →
    ∃ us, (rs.mapM (resG tm)).run P w = .ok us w ∧ VRels ι vs us
  | [], r, vs, h1, h2 => by
    simp [cRes] at h1; subst h1
    simp [resOf] at h2; subst h2
    exact ⟨[], rfl, rfl⟩
  | .tmp t :: rs, r, vs, h1, h2 => by
    simp only [cRes] at h1
    split at h1
    case h_2 => simp at h1
    rename_i l hl
    simp at h1; subst h1
    simp only [resOf] at h2
    split at h2
    case h_2 => simp at h2
    rename_i vs' hvs
    simp at h2; subst h2
    obtain ⟨us, g1, g2⟩ := res_run he hH hl hvs
    refine ⟨tm.getD t undef :: us, ?_, ⟨_, _, rfl, he t, g2⟩⟩
    rw [List.mapM_cons, Sem.run_bind]
    have : (resG tm (.tmp t)).run P w = .ok (tm.getD t undef) w := rfl
    rw [this, Result.andThen_ok, Sem.run_bind, g1]
    rfl
  | .cell a t :: rs, r, vs, h1, h2 => by
    have step : ∀ (u : Value) (x : AV) (vs' : List AV) (us : List Value), (resG tm (.cell a t)).run P w = .ok u w → VRel ι x u → (rs.mapM (resG tm)).run P w = .ok us w → VRels ι vs' us →
        ∃ us, ((ResultVar.cell a t :: rs).mapM (resG tm)).run P w = .ok us w ∧ VRels ι (x :: vs') us := by
      intro u x vs' us g1 g2 g3 g4
      refine ⟨u :: us, ?_, ⟨_, _, rfl, g2, g4⟩⟩
      rw [List.mapM_cons, Sem.run_bind, g1, Result.andThen_ok, Sem.run_bind, g3]
      rfl
    simp only [cRes] at h1
    have hv := he a
    split at h1
    case h_3 => simp at h1
    · rename_i n l ht hn hl
      split at h1
      · simp at h1
      rename_i hn0
      simp at h1; subst h1
      simp only [resOf] at h2
      rw [if_neg hn0] at h2
      split at h2
      case h_2 => simp at h2
      rename_i v vs' hr hvs
      simp at h2; subst h2
      obtain ⟨us, g1, g2⟩ := res_run he hH hl hvs
      simp only [ROp.run, Opd.ev] at hr
      split at hr
      case h_2 => simp at hr
      rename_i b o hb
      rw [hb] at hv
      split at hr
      case h_2 => simp at hr
      rename_i c hc
      split at hr
      case h_2 => simp at hr
      rename_i l' hl'
      simp at hr; subst hr
      obtain ⟨r0, p, q, hi, hpv⟩ := hv
      obtain ⟨ws, k1, k2, k3⟩ := hH.row hc hi hl'
      refine step (.agg ws.toArray) _ vs' us ?_ ⟨_, rfl, by simpa using k2⟩ g1 g2
      simp only [resG, hpv]
      simp [asAddr, loadVar, run_agg ht, run_size hn, k3]
    · rename_i n l ht hn hl
      simp at h1; subst h1
      simp only [resOf] at h2
      simp only [if_true] at h2
      split at h2
      case h_2 => simp at h2
      rename_i v vs' hr hvs
      simp at h2; subst h2
      obtain ⟨us, g1, g2⟩ := res_run he hH hl hvs
      simp only [ROp.run, Opd.ev] at hr
      split at hr
      case h_2 => simp at hr
      rename_i b o hb
      rw [hb] at hv
      split at hr
      case h_2 => simp at hr
      rename_i c hc
      obtain ⟨r0, p, q, hi, hpv⟩ := hv
      obtain ⟨y, k1, k2⟩ := hH.cell hc hi hr
      refine step y _ vs' us ?_ k2 g1 g2
      simp only [resG, hpv]
      simp [asAddr, loadVar, run_agg ht, k1]
theorem results_run (he : EnvRel ι e tm) (hH : HRel P ι H w) {fd : Func} {r : List (S × Option Nat)} {vs : List AV} (h1 : cRes P fd.results.toList = some r) (h2 : resOf e H r = some vs) :
    ∃ u, (results fd tm).run P w = .ok u w ∧ VRel ι (tupOf vs) u := by
  obtain ⟨us, g1, g2⟩ := res_run he hH h1 h2
  have hres : results fd tm = (do let vs ← fd.results.mapM (resG tm); pure (if h : vs.size = 1 then vs[0] else .tuple vs)) := by
    unfold results
    congr 1
  have hm : (fd.results.mapM (resG tm)).run P w = .ok us.toArray w := by
    rw [Array.mapM_eq_mapM_toList]
    show ((do let x ← fd.results.toList.mapM (resG tm); pure x.toArray : Sem (Array Value))).run P w = _
    rw [Sem.run_bind, g1]
    rfl
  refine ⟨if h : us.toArray.size = 1 then us.toArray[0] else .tuple us.toArray, ?_, ?_⟩
  · rw [hres, Sem.run_bind, hm, Result.andThen_ok]
    rfl
  · have hlen := g2.length
    match vs, us, g2, hlen with
    | [v], us, ⟨u, us', e1, e2, e3⟩, hlen =>
      simp [VRels] at e3; subst e3; subst e1
      simpa [tupOf] using e2
    | [], us, g2, hlen =>
      simp at hlen; subst hlen
      exact ⟨#[], by simp, rfl⟩
    | v :: v' :: vs, us, g2, hlen =>
      have : ¬ us.toArray.size = 1 := by simp at hlen ⊢; omega
      rw [dif_neg this]
      exact ⟨us.toArray, rfl, by simpa using g2⟩
end
end Go.Ab
/- A function's call, from its first step to the frame that leaves. -/
set_option linter.unusedSimpArgs false
set_option linter.unusedVariables false
namespace Go.Ab
open Go
section
variable {P : Program} {fn : FuncId} {cs : List Frame} {tm : Array Value} {df : List Deferred} {k todo : List Item} {w : World}

/-- a frame that returns -/
def Rt (fn : FuncId) (tm : Array Value) (df : List Deferred) (todo : List Item) : Frame :=
  { fn, tmps := tm, todo, defers := df, mode := .returning, kind := .normal }
theorem s_toRet : Go.Steps P (lone (Fr fn none tm df (.code .ret :: k)) cs w) (lone (Rt fn tm df (.code .ret :: k)) cs w) := .one (step_lone_go (by simp [stepG, stepG.exec, Fr, Rt]))
theorem s_toEnd : Go.Steps P (lone (Fr fn none tm df []) cs w) (lone (Rt fn tm df []) cs w) := .one (step_lone_go (by simp [stepG, stepG.exec, Fr, Rt]))
theorem s_mark {r : Nat} (h : w.heap[r]? = some (.deferred (some []))) : Go.Steps P (lone (Rt fn tm ({ target := .collected r, args := #[] } :: df) todo) cs w)
    (lone (Rt fn tm df todo) cs { w with heap := w.heap.setIfInBounds r (.deferred none) }) := by
  have h1 : (Instr.takeDeferred r).run P w = .ok [] { w with heap := w.heap.setIfInBounds r (.deferred none) } := by
    unfold Instr.takeDeferred
    rw [Sem.run_bind]
    have : (getObj r).run P w = .ok (.deferred (some [])) w := by simp [getObj, Sem.run, h]
    rw [this]
    simp only [Result.andThen_ok, Sem.run_bind]
    rw [run_setMap h (by simp)]
    rfl
  refine .one (step_lone_go ?_)
  simp [stepG, unwind, Rt, Sem.runT_eq, h1]

/-- the marks are taken -/
theorem marks_run {ι0 ι : Io} {H0 H : Hp} {nx nx' : S} {w0 : World} : ∀ (df : List Deferred) (w : World), DfOK w0.heap.size ι H w df → HRel P ι H w → St ι0 H0 nx nx' w0 ι H w →
    ∃ w', Go.Steps P (lone (Rt fn tm df todo) cs w) (lone (Rt fn tm [] todo) cs w') ∧ HRel P ι H w' ∧ St ι0 H0 nx nx' w0 ι H w'
  | [], w, _, hH, hs => ⟨w, .refl _ _, hH, hs⟩
  | d :: df, w, hdf, hH, hs => by
    obtain ⟨r, rfl, h0, h2, h3, h4⟩ := hdf.2.1 d (by simp)
    have hoth : ∀ r', r' ≠ r → (w.heap.setIfInBounds r (.deferred none))[r']? = w.heap[r']? := fun r' hr => by
      rw [Array.getElem?_setIfInBounds, if_neg (fun e => hr e.symm)]
    have hH' : HRel P ι H { w with heap := w.heap.setIfInBounds r (.deferred none) } := ⟨fun b ob hb r' p q hi => by
      have : r' ≠ r := by rintro rfl; exact h4 b ob p q hb hi
      show ORel P ι ob p q (w.heap.setIfInBounds r (.deferred none))[r']?
      rw [hoth r' this]; exact hH.obj b ob hb r' p q hi, hH.inj⟩
    have hs' : St ι0 H0 nx nx' w0 ι H { w with heap := w.heap.setIfInBounds r (.deferred none) } :=
      ⟨hs.tape, hs.os, hs.output, by simpa using hs.size, hs.le, hs.out, fun r' hr' hn => by
        have : r' ≠ r := by omega
        show (w.heap.setIfInBounds r (.deferred none))[r']? = _
        rw [hoth r' this]; exact hs.keep r' hr' hn, hs.sub, hs.pres, hs.nxle⟩
    have hnd := hdf.2.2
    simp only [List.nodup_cons] at hnd
    have hdf' : DfOK w0.heap.size ι H { w with heap := w.heap.setIfInBounds r (.deferred none) } df := by
      refine ⟨by simpa using hdf.1, fun d hd => ?_, hnd.2⟩
      obtain ⟨r', g1, g0, g2, g3, g4⟩ := hdf.2.1 d (by simp [hd])
      have : r' ≠ r := by
        rintro rfl
        rw [g1] at hd
        exact hnd.1 hd
      refine ⟨r', g1, g0, by simpa using g2, ?_, g4⟩
      show (w.heap.setIfInBounds r (.deferred none))[r']? = _
      rw [hoth r' this]; exact g3
    obtain ⟨w', g1, g2, g3⟩ := marks_run df _ hdf' hH' hs'
    exact ⟨w', .trans (s_mark h3) g1, g2, g3⟩

/-- the slots at the call -/
theorem at_ofL : ∀ (as : List AV) (i : Nat) (t : Env) (s : Nat), at_ (Tr.ofL (S.ofNat i) as t) (S.ofNat s) = if i ≤ s ∧ s < i + as.length then as.getD (s - i) undefA else at_ t (S.ofNat s)
  | [], i, t, s => by simp [Tr.ofL]; intro h1 h2; omega
  | a :: as, i, t, s => by
    simp only [Tr.ofL, S.ofNat_succ]
    rw [at_ofL as (i + 1) (t.set (S.ofNat i) a) s, at_set]
    simp only [List.length_cons]
    by_cases h : s = i
    · subst h
      rw [if_neg (by omega), if_pos rfl, if_pos (by omega)]
      simp
    · rw [if_neg (fun e => h (S.ofNat_inj e))]
      by_cases h2 : i + 1 ≤ s ∧ s < i + 1 + as.length
      · rw [if_pos h2, if_pos (by omega)]
        rw [show s - i = (s - (i + 1)) + 1 by omega]
        simp [List.getD]
      · rw [if_neg h2, if_neg (by omega)]
theorem env_enter {ι : Io} {args : List AV} {vargs : Array Value} (h : VRels ι args vargs.toList) (n : Nat) : EnvRel ι (Tr.ofL .o args .E) (vargs ++ Array.replicate n undef) := by
  intro t
  have h0 : (S.o) = S.ofNat 0 := rfl
  have hl : args.length = vargs.size := by simpa using h.length.symm
  rw [h0, at_ofL]
  by_cases ht : t < args.length
  · rw [if_pos (by omega)]
    obtain ⟨y, g1, g2⟩ := h.get t args[t] (List.getElem?_eq_getElem ht)
    have e1 : args.getD (t - 0) undefA = args[t] := by simp [List.getD, List.getElem?_eq_getElem ht]
    have e2 : (vargs ++ Array.replicate n undef).getD t undef = y := by
      rw [Array.getD_eq_getD_getElem?, Array.getElem?_append_left (by omega)]
      rw [Array.getElem?_toList] at g1
      rw [g1]; rfl
    rw [e1, e2]; exact g2
  · rw [if_neg (by omega)]
    have e1 : at_ (.E : Env) (S.ofNat t) = undefA := by simp [at_, Tr.get_E]
    have e2 : (vargs ++ Array.replicate n undef).getD t undef = undef := by
      rw [Array.getD_eq_getD_getElem?, Array.getElem?_append_right (by omega), Array.getElem?_replicate]
      split <;> rfl
    rw [e1, e2]; exact VRel.undef

theorem fn_run {call : Caller} (hm : P.follows .mixedOrders = true) (hc : CallOK P call) (hcw : CallWF call) (fuel : Nat) {f : FuncId} {fd : Func} {cd : Cd} (hf : P.funcs[f]? = some fd) (hcf : cFn P fd = some (.code cd))
    {args : List AV} {nx nx' : S} {H H' : Hp} {v : AV} (hb : bodyA (evalC call fuel) cd args nx H = .mk v nx' H') {ι : Io} {vargs : Array Value} (hv : VRels ι args vargs.toList) (hH : HRel P ι H w) (hwf : Wf H nx) (hfr : FreshI ι nx nx') (cs : List Frame) :
    ∃ ι' w' fr u, Go.Steps P (lone (Frame.enter P f vargs .normal) cs w) (lone fr cs w') ∧ fr.fn = f ∧ fr.leaving P w' (.returned u) ∧ VRel ι' v u ∧ HRel P ι' H' w' ∧ St ι H nx nx' w ι' H' w' := by
  unfold cFn at hcf
  split at hcf
  case h_2 => simp at hcf
  rename_i b hbody
  split at hcf
  case h_2 => simp at hcf
  rename_i B R hB hR
  simp at hcf; subst hcf
  unfold bodyA at hb
  split at hb
  · simp at hb
  rename_i hn
  have hn' : args.length ≤ fd.ntmps := Nat.le_of_ble_eq_true hn
  have hl : args.length = vargs.size := by simpa using hv.length.symm
  have hent : Frame.enter P f vargs .normal = Fr f none (vargs ++ Array.replicate (fd.ntmps - vargs.size) undef) [] [.code b] := by
    simp [Frame.enter, hf, hbody, Fr]
  have he := env_enter hv (fd.ntmps - vargs.size)
  have hsz : (vargs ++ Array.replicate (fd.ntmps - vargs.size) undef).size = fd.ntmps := by simp; omega
  split at hb
  · simp at hb
  · rename_i x e1 nx1 H1 hne hev
    split at hb
    case h_2 => simp at hb
    rename_i vs hvs
    simp at hb; obtain ⟨rfl, rfl, rfl⟩ := hb
    obtain ⟨ι1, w1, tm1, df1, g1, g2, g3, g4, g5, g6, _⟩ := (code_run (fn := f) (rd := none) hm hc hcw fuel b B hB (.inl rfl)).ap (k := []) (cs := cs) hev he hsz hH hwf hfr (DfOK.nil ι H w)
    have hret : ∃ todo, Go.Steps P (lone (Frame.enter P f vargs .normal) cs w) (lone (Rt f tm1 df1 todo) cs w1) := by
      rw [hent]
      cases x with
      | norm => exact ⟨_, .trans g1 s_toEnd⟩
      | exit id => exact (hne id rfl).elim
      | ret => obtain ⟨k1, g1⟩ := g1; exact ⟨_, .trans g1 s_toRet⟩
    obtain ⟨todo, hret⟩ := hret
    obtain ⟨w2, k1, k2, k3⟩ := marks_run (fn := f) (tm := tm1) (todo := todo) (cs := cs) df1 w1 g6 g4 g5
    obtain ⟨u, r1, r2⟩ := results_run g3 k2 (fd := fd) hR hvs
    exact ⟨ι1, w2, Rt f tm1 [] todo, u, .trans hret k1, rfl, ⟨rfl, rfl, rfl, fd, hf, r1⟩, r2, k2, k3⟩
  · simp at hb
end
end Go.Ab
/- A round of a loop over a function. -/
set_option linter.unusedSimpArgs false
set_option linter.unusedVariables false
namespace Go.Ab
open Go
section
variable {P : Program} {fn : FuncId} {cs : List Frame} {tm : Array Value} {df : List Deferred} {k todo : List Item} {w : World}

theorem s_beginRound {r : Nat} {w' : World} (h : (Instr.beginRound r).run P w = .ok () w') : Go.Steps P (lone (Fr fn (some r) tm df (.beginRound :: k)) cs w) (lone (Fr fn (some r) tm df k) cs w') := by
  refine .one (step_lone_go ?_)
  have h1 : (do (some r).elim (stuck "beginRound: no round") Instr.beginRound; pure Next.skip : Sem Next).run P w = .ok .skip w' := by
    rw [Sem.run_bind]
    show (Result.andThen ((Instr.beginRound r).run P w) _) = _
    rw [h]; rfl
  simp only [stepG, stepG.exec, Fr, stepG.apply, Sem.runT_eq, h1]
  simp [Frame.finish]
theorem s_endRound {r : Nat} {c : Frame} {v : Value} {w' : World} {jump : Option Code} (h : (Instr.endRound r jump).run P w = .ok v w')
    (ht : (todo = [] ∧ jump = none) ∨ (∃ k1, todo = .code .ret :: k1 ∧ jump = some .ret) ∨ (∃ id k1, todo = .code (.exit id) :: k1 ∧ exitTo id k1 = none ∧ jump = some (.exit id))) :
    Go.Steps P (lone (Fr fn (some r) tm df todo) (c :: cs) w) (lone (c.finish v) cs w') := by
  refine .one (step_lone_go ?_)
  rcases ht with ⟨rfl, rfl⟩ | ⟨k1, rfl, rfl⟩ | ⟨id, k1, rfl, hx, rfl⟩
  · simp [stepG, stepG.exec, Fr, Sem.runT_eq, h, doReturn]
  · simp [stepG, stepG.exec, Fr, Sem.runT_eq, h, doReturn]
  · simp [stepG, stepG.exec, Fr, Sem.runT_eq, h, doReturn, hx]

theorem putArgs_rel {ι : Io} : ∀ {ds : List Tmp} {args : List AV} {vs : List Value} {e e' : Env} {tm : Array Value}, putArgs e (ds.map S.ofNat) args = some e' → VRels ι args vs → EnvRel ι e tm → (∀ d ∈ ds, d < tm.size) →
    vs.length = ds.length ∧ EnvRel ι e' ((ds.zip vs).foldl (fun tmps (t, a) => tmps.setIfInBounds t a) tm) ∧ ((ds.zip vs).foldl (fun (tmps : Array Value) (t, a) => tmps.setIfInBounds t a) tm).size = tm.size
  | [], args, vs, e, e', tm, h, hv, he, _ => by
    cases args with
    | nil =>
      simp [putArgs] at h; subst h
      simp [VRels] at hv; subst hv
      exact ⟨rfl, he, rfl⟩
    | cons => simp [putArgs] at h
  | d :: ds, args, vs, e, e', tm, h, hv, he, hd => by
    cases args with
    | nil => simp [putArgs] at h
    | cons a args =>
      simp only [List.map_cons, putArgs] at h
      obtain ⟨v, vs', rfl, h1, h2⟩ := hv
      obtain ⟨g1, g2, g3⟩ := putArgs_rel (tm := tm.setIfInBounds d v) h h2 (he.set (hd d (by simp)) h1) (fun x hx => by simpa using hd x (by simp [hx]))
      exact ⟨by simp [g1], by simpa using g2, by simpa using g3⟩
theorem roundTmps_eq (lp : Loop) (vargs : Array Value) : roundTmps lp vargs = (lp.params.toList.zip vargs.toList).foldl (fun tmps (t, a) => tmps.setIfInBounds t a) lp.tmps := by
  unfold roundTmps
  rw [← Array.toList_zip, Array.foldl_toList]

theorem round_run {call : Caller} (hm : P.follows .mixedOrders = true) (hc : CallOK P call) (hcw : CallWF call) (fuel : Nat) {l : S} {args : List AV} {nx nx' : S} {H H' : Hp} {v : AV}
    (hb : roundA (evalC call fuel) l args nx H = .mk v nx' H') {ι : Io} {vargs : Array Value} (hv : VRels ι args vargs.toList) (hH : HRel P ι H w) (hwf : Wf H nx) (hfr : FreshI ι nx nx') {r q : Nat} (hl : ι l = some (r, 0, q)) :
    ∃ lp, w.heap[r]? = some (.loop lp) ∧ vargs.size = lp.params.size ∧ CallRes P ι H nx nx' w v H' (Frame.round r lp.fn (roundTmps lp vargs) lp.assign lp.body .normal) := by
  unfold roundA at hb
  split at hb
  case h_2 => simp at hb
  rename_i pd1 e ps ag bd1 hg1
  obtain ⟨pv1, fn1, tm1, params, asg, body, defers, o1, o2, o3, rfl, o5, o6, o7, o8, o9⟩ := hH.obj l _ hg1 _ _ _ hl
  split at hb
  case h_2 => simp at hb
  rename_i e1 hpa
  obtain ⟨a1, a2, a3⟩ := putArgs_rel hpa hv o3 o5
  refine ⟨_, o1, by simpa using a1, fun c cs => ?_⟩
  split at hb
  case h_2 => simp at hb
  rename_i e2 nx1 H1 hev1
  split at hb
  case h_2 => simp at hb
  rename_i pd2 e02 ps2 ag2 bd2 hg2
  split at hb
  case h_2 => simp at hb
  rename_i x e3 nx2 H2 hev2
  split at hb
  case h_2 => simp at hb
  rename_i st3 pd3 e03 ps3 ag3 bd3 hg3
  have hres : nx' = nx2 ∧ ∃ (st : LoopState) (jump : Option C) (b : Bool), H' = H2.set l (.loop st jump e03 ps3 ag3 bd3) ∧ v = .bool b ∧
      ((x = .norm ∧ st = .ready ∧ jump = none ∧ b = true) ∨ (x = .ret ∧ st = .done ∧ jump = some .ret ∧ b = false) ∨ (∃ id, x = .exit id ∧ st = .done ∧ jump = some (.exit id) ∧ b = false)) := by
    split at hb <;> simp at hb <;> obtain ⟨rfl, rfl, rfl⟩ := hb
    · exact ⟨rfl, _, _, _, rfl, rfl, .inl ⟨rfl, rfl, rfl, rfl⟩⟩
    · exact ⟨rfl, _, _, _, rfl, rfl, .inr (.inl ⟨rfl, rfl, rfl, rfl⟩)⟩
    · exact ⟨rfl, _, _, _, rfl, rfl, .inr (.inr ⟨_, rfl, rfl, rfl, rfl⟩)⟩
  obtain ⟨rfl, st, jump, b, rfl, rfl, hcase⟩ := hres
  have x1 := (evalC_ext hcw fuel ag).ap hev1
  have x2 := (evalC_ext hcw fuel bd1).ap hev2
  -- the assignment of the round's variables
  have hfr0 : Frame.round r fn1 (roundTmps { state := .ready, pending := pv1, fn := fn1, tmps := tm1, params := params, assign := asg, body := body, defers := defers } vargs) asg body .normal =
      Fr fn1 (some r) (roundTmps { state := .ready, pending := pv1, fn := fn1, tmps := tm1, params := params, assign := asg, body := body, defers := defers } vargs) [] [.code asg, .beginRound, .code body] := rfl
  rw [roundTmps_eq] at hfr0 ⊢
  simp only at hfr0 ⊢
  rw [hfr0]
  obtain ⟨ι1, w1, t1, d1, g1, g2, g3, g4, g5, g6, g7⟩ := (code_run (fn := fn1) (rd := some r) hm hc hcw fuel asg ag o6 (.inr o8)).ap (k := [.beginRound, .code body]) (cs := c :: cs) hev1 a2 a3 hH hwf (fun b h1 h2 => hfr b h1 (by have := x2.1; omega)) (DfOK.nil ι H w)
  have hd1 := g7 o8
  subst hd1
  have hl1 : ι1 l = some (r, 0, q) := g5.le _ _ hl
  -- the round begins
  obtain ⟨pv2, fn2, tm2, params2, asg2, body2, defers2, b1, b2⟩ := g4.obj l _ hg2 _ _ _ hl1
  have hlt1 := g4.lt hg2 hl1
  have hbeg : (Instr.beginRound r).run P w1 = .ok () { w1 with heap := w1.heap.setIfInBounds r (.loop { state := .busy, pending := pv2, fn := fn2, tmps := tm2, params := params2, assign := asg2, body := body2, defers := defers2 }) } := by
    unfold Instr.beginRound Instr.getLoop
    simp only [Sem.run_bind]
    have : (getObj r).run P w1 = .ok (.loop { state := .ready, pending := pv2, fn := fn2, tmps := tm2, params := params2, assign := asg2, body := body2, defers := defers2 }) w1 := by simp [getObj, Sem.run, b1]
    rw [this]
    simp only [Result.andThen_ok, Sem.run_pure]
    rw [run_setMap b1 (by simp)]
    rfl
  obtain ⟨r1, r2⟩ := write_step g4 hg2 hl1 (ob' := .loop .busy pd2 e02 ps2 ag2 bd2) (w' := { w1 with heap := w1.heap.setIfInBounds r (.loop { state := .busy, pending := pv2, fn := fn2, tmps := tm2, params := params2, assign := asg2, body := body2, defers := defers2 }) })
    ⟨pv2, fn2, tm2, params2, asg2, body2, defers2, by simp [hlt1], b2⟩ (by simp) (fun r' hr => by
      simp only [Array.getElem?_setIfInBounds]; rw [if_neg (fun e => hr e.symm)]) rfl rfl rfl (nx := nx1) (nx' := nx1) (Nat.le_refl _)
  have hwf1 : Wf (H1.set l (.loop .busy pd2 e02 ps2 ag2 bd2)) nx1 := (Ext.old hg2 _ (Nat.le_refl _)).wf (x1.wf hwf)
  obtain ⟨ι2, w2, t2, d2, k1, k2, k3, k4, k5, k6, k7⟩ := (code_run (fn := fn1) (rd := some r) hm hc hcw fuel body bd1 o7 (.inr o9)).ap (k := []) (cs := c :: cs) hev2 g3 g2 r1 hwf1 (fun b h1 h2 => by
    rw [g5.out b (by omega)]; exact hfr b (by have := x1.1; omega) h2) (DfOK.nil _ _ _)
  have hd2 := k7 o9
  subst hd2
  have hl2 : ι2 l = some (r, 0, q) := k5.le _ _ hl1
  obtain ⟨pv3, fn3, tm3, params3, asg3, body3, defers3, c1, c2, c3⟩ := k4.obj l _ hg3 _ _ _ hl2
  have hlt2 := k4.lt hg3 hl2
  have hend : ∀ jp : Option Code, (Instr.endRound r jp).run P w2 = .ok (.bool jp.isNone) { w2 with heap := w2.heap.setIfInBounds r (.loop { state := if jp.isNone then .ready else .done, pending := jp, fn := fn3, tmps := tm3, params := params3, assign := asg3, body := body3, defers := defers3 }) } := by
    intro jp
    unfold Instr.endRound Instr.getLoop
    simp only [Sem.run_bind]
    have : (getObj r).run P w2 = .ok (.loop { state := st3, pending := pv3, fn := fn3, tmps := tm3, params := params3, assign := asg3, body := body3, defers := defers3 }) w2 := by simp [getObj, Sem.run, c1]
    rw [this]
    simp only [Result.andThen_ok, Sem.run_pure]
    rw [run_setMap c1 (by simp)]
    rfl
  have fin : ∀ jp : Option Code, PendRel jump jp → st = (if jp.isNone then .ready else .done) → b = jp.isNone → ∀ todo, Go.Steps P (lone (Fr fn1 (some r) t1 [] [.code body]) (c :: cs) { w1 with heap := w1.heap.setIfInBounds r (.loop { state := .busy, pending := pv2, fn := fn2, tmps := tm2, params := params2, assign := asg2, body := body2, defers := defers2 }) }) (lone (Fr fn1 (some r) t2 [] todo) (c :: cs) w2) →
      ((todo = [] ∧ jp = none) ∨ (∃ k1, todo = .code .ret :: k1 ∧ jp = some .ret) ∨ (∃ id k1, todo = .code (.exit id) :: k1 ∧ exitTo id k1 = none ∧ jp = some (.exit id))) →
      ∃ ι' w' u, Go.Steps P (lone (Fr fn1 (some r) ((params.toList.zip vargs.toList).foldl (fun tmps (t, a) => tmps.setIfInBounds t a) tm1) [] [.code asg, .beginRound, .code body]) (c :: cs) w) (lone (c.finish u) cs w') ∧
        VRel ι' (.bool b) u ∧ HRel P ι' (H2.set l (.loop st jump e03 ps3 ag3 bd3)) w' ∧ St ι H nx nx' w ι' (H2.set l (.loop st jump e03 ps3 ag3 bd3)) w' := by
    intro jp hpj hst hbj todo hsteps htodo
    obtain ⟨q1, q2⟩ := write_step k4 hg3 hl2 (ob' := .loop st jump e03 ps3 ag3 bd3) (w' := { w2 with heap := w2.heap.setIfInBounds r (.loop { state := if jp.isNone then .ready else .done, pending := jp, fn := fn3, tmps := tm3, params := params3, assign := asg3, body := body3, defers := defers3 }) })
      ⟨jp, fn3, tm3, params3, asg3, body3, defers3, by simp [hlt2, hst], hpj, c3⟩ (by simp) (fun r' hr => by
        simp only [Array.getElem?_setIfInBounds]; rw [if_neg (fun e => hr e.symm)]) rfl rfl rfl (nx := nx') (nx' := nx') (Nat.le_refl _)
    exact ⟨ι2, _, .bool jp.isNone, .trans g1 (.trans (s_beginRound hbeg) (.trans hsteps (s_endRound (hend jp) htodo))), by rw [hbj]; rfl, q1, ((g5.trans r2).trans k5).trans q2⟩
  rcases hcase with ⟨rfl, rfl, rfl, rfl⟩ | ⟨rfl, rfl, rfl, rfl⟩ | ⟨id, rfl, rfl, rfl, rfl⟩
  · exact fin none rfl rfl rfl [] k1 (.inl ⟨rfl, rfl⟩)
  · obtain ⟨k1', k1⟩ := k1
    exact fin (some .ret) rfl rfl rfl _ k1 (.inr (.inl ⟨k1', rfl, rfl⟩))
  · obtain ⟨k1', k0, k1⟩ := k1
    exact fin (some (.exit id)) rfl rfl rfl _ k1 (.inr (.inr ⟨id, k1', rfl, k0, rfl⟩))
end
end Go.Ab
/- The calls of the evaluator are the machine's. -/
set_option linter.unusedSimpArgs false
set_option linter.unusedVariables false
namespace Go.Ab
open Go

theorem insertA_ext {size bytes : Nat} {args : List AV} {nx nx' : S} {H H' : Hp} {v : AV} (h : insertA size bytes args nx H = .mk v nx' H') : Ext H nx nx' H' := by
  unfold insertA at h
  split at h
  case h_2 => simp at h
  split at h
  case h_2 => simp at h
  split at h
  case isFalse => simp at h
  simp only [RV.mk.injEq] at h
  obtain ⟨_, rfl, rfl⟩ := h
  exact Ext.delnew ..
theorem bodyA_ext {ev : C → Env → S → Hp → R} (hf : ∀ c, FExt (ev c)) {cd : Cd} {args : List AV} {nx nx' : S} {H H' : Hp} {v : AV} (h : bodyA ev cd args nx H = .mk v nx' H') : Ext H nx nx' H' := by
  unfold bodyA at h
  split at h
  · simp at h
  split at h
  · simp at h
  · rename_i hev
    split at h
    case h_2 => simp at h
    simp at h; obtain ⟨_, rfl, rfl⟩ := h
    exact (hf _).ap hev
  · simp at h
theorem roundA_ext {ev : C → Env → S → Hp → R} (hf : ∀ c, FExt (ev c)) {l : S} {args : List AV} {nx nx' : S} {H H' : Hp} {v : AV} (h : roundA ev l args nx H = .mk v nx' H') : Ext H nx nx' H' := by
  unfold roundA at h
  split at h
  case h_2 => simp at h
  split at h
  case h_2 => simp at h
  split at h
  case h_2 => simp at h
  rename_i h1
  split at h
  case h_2 => simp at h
  rename_i g1
  split at h
  case h_2 => simp at h
  rename_i h2
  split at h
  case h_2 => simp at h
  rename_i g2
  have e1 := (hf _).ap h1
  have e2 := (hf _).ap h2
  have e3 := (e1.trans (Ext.old g1 _ (Nat.le_refl _))).trans e2
  split at h <;> simp at h <;> obtain ⟨_, rfl, rfl⟩ := h <;> exact e3.trans (Ext.old g2 _ (Nat.le_refl _))
/-- what is known of calls makes no names outside its own -/
def GExt (g : List AV → S → Hp → RV) : Prop := ∀ args nx H v nx' H', g args nx H = .mk v nx' H' → Ext H nx nx' H'
def PreExt (prog : Nat → Option Fun) : Prop := ∀ f g cd, prog f = some (.pre g cd) → GExt g
theorem callN_wf {prog : Nat → Option Fun} (hp : PreExt prog) : ∀ n, CallWF (callN prog n)
  | 0 => fun t args nx H v nx' H' h => by simp [callN] at h
  | n + 1 => fun t args nx H v nx' H' h => by
    have ih := evalC_ext (callN_wf hp n) n
    simp only [callN] at h
    split at h
    · exact roundA_ext ih h
    · split at h
      · rename_i hpf
        split at h
        · rename_i hg
          simp only [RV.mk.injEq] at h
          obtain ⟨rfl, rfl, rfl⟩ := h
          exact hp _ _ _ hpf _ _ _ _ _ _ hg
        · exact bodyA_ext ih h
      · exact bodyA_ext ih h
      · simp at h

/-- the function's code is this -/
def CodeIs (P : Program) (f : Nat) (cd : Cd) : Prop := ∃ fd, P.funcs[f]? = some fd ∧ cFn P fd = some (.code cd) ∧ (fd.name == "runtime.NumGoroutine") = false
/-- what is known of a function's calls is so -/
def GOK (P : Program) (f : Nat) (g : List AV → S → Hp → RV) : Prop :=
  ∀ args nx H v nx' H', g args nx H = .mk v nx' H' → ∀ ι w (vargs : Array Value), VRels ι args vargs.toList → HRel P ι H w → Wf H nx → FreshI ι nx nx' → CallRes P ι H nx nx' w v H' (Frame.enter P f vargs .normal)
/-- the program's functions are what the text says -/
structure ProgOK (P : Program) (prog : Nat → Option Fun) : Prop where
  code : ∀ f cd, prog f = some (.code cd) → CodeIs P f cd
  pre : ∀ f g cd, prog f = some (.pre g cd) → CodeIs P f cd ∧ GExt g ∧ GOK P f g
theorem ProgOK.ext {P : Program} {prog : Nat → Option Fun} (h : ProgOK P prog) : PreExt prog := fun f g cd e => (h.pre f g cd e).2.1

section
variable {P : Program}
theorem CodeIs.fn {f : Nat} {cd : Cd} (h : CodeIs P f cd) : ∃ fn, P.funcs[f]? = some fn ∧ (fn.name == "runtime.NumGoroutine") = false ∧ fn.body.isNone = false := by
  obtain ⟨fd, h1, h2, h3⟩ := h
  refine ⟨fd, h1, h3, ?_⟩
  unfold cFn at h2
  split at h2
  · rename_i b hb; rw [hb]; rfl
  · simp at h2
theorem callN_ok (hm : P.follows .mixedOrders = true) {prog : Nat → Option Fun} (hp : ProgOK P prog) : ∀ n, CallOK P (callN prog n)
  | 0 => fun t args nx H v nx' H' h => by simp [callN] at h
  | n + 1 => fun t args nx H v nx' H' h ι w vargs hv hH hwf hfr => by
    have ih := callN_ok hm hp n
    have iw := callN_wf hp.ext n
    have go : ∀ f cd, CodeIs P f cd → bodyA (evalC (callN prog n) n) cd args nx H = .mk v nx' H' → CallRes P ι H nx nx' w v H' (Frame.enter P f vargs .normal) := fun f cd hc hb c cs => by
      obtain ⟨fd, h1, h2, h3⟩ := hc
      obtain ⟨ι', w', fr, u, g1, g2, g3, g4⟩ := fn_run hm ih iw n h1 h2 hb hv hH hwf hfr (c :: cs)
      exact ⟨ι', w', u, .trans g1 (.one (step_leave_returned g3)), g4⟩
    cases t with
    | rd l =>
      simp only [callN] at h
      exact fun r q hl => round_run hm ih iw n h hv hH hwf hfr hl
    | fn f =>
      simp only [callN] at h
      split at h
      · rename_i g cd hpf
        obtain ⟨h1, h2, h3⟩ := hp.pre f g cd hpf
        refine ⟨h1.fn, ?_⟩
        split at h
        · rename_i hg
          simp only [RV.mk.injEq] at h
          obtain ⟨rfl, rfl, rfl⟩ := h
          exact h3 _ _ _ _ _ _ hg ι w vargs hv hH hwf hfr
        · exact go f cd h1 h
      · rename_i cd hpf
        have h1 := hp.code f cd hpf
        exact ⟨h1.fn, go f cd h1 h⟩
      · simp at h

/-- A CALL that the evaluator brings to an end is one that the machine brings to an end, with what stands for the same value. -/
theorem calls_of (hm : P.follows .mixedOrders = true) {prog : Nat → Option Fun} (hp : ProgOK P prog) {n : Nat} {f : FuncId} {cd : Cd} (hf : prog f = some (.code cd)) {args : List AV} {nx nx' : S} {H H' : Hp} {v : AV}
    (h : callN prog (n + 1) (.fn f) args nx H = .mk v nx' H') {ι : Io} {w : World} {vargs : Array Value} (hv : VRels ι args vargs.toList) (hH : HRel P ι H w) (hwf : Wf H nx) (hfr : FreshI ι nx nx') :
    Calls P f vargs w (fun e w' => ∃ ι' u, e = .returned u ∧ VRel ι' v u ∧ HRel P ι' H' w' ∧ St ι H nx nx' w ι' H' w') := by
  obtain ⟨fd, h1, h2, h3⟩ := hp.1 f cd hf
  simp only [callN, hf] at h
  intro cs
  obtain ⟨ι', w', fr, u, g1, g2, g3, g4⟩ := fn_run hm (callN_ok hm hp n) (callN_wf hp.ext n) n h1 h2 h hv hH hwf hfr cs
  exact ⟨.returned u, w', fr, ⟨ι', u, rfl, g4⟩, g1, g2, g3⟩
/-- from nothing: no argument, no memory that is named -/
theorem calls_closed (hm : P.follows .mixedOrders = true) {prog : Nat → Option Fun} (hp : ProgOK P prog) {n : Nat} {f : FuncId} {cd : Cd} (hf : prog f = some (.code cd)) {nx' : S} {H' : Hp} {b : Bool}
    (h : callN prog (n + 1) (.fn f) [] .o .E = .mk (.bool b) nx' H') (w : World) :
    Calls P f #[] w (fun e w' => e = .returned (.bool b) ∧ w.heap.size ≤ w'.heap.size ∧ (∀ r, r < w.heap.size → w'.heap[r]? = w.heap[r]?) ∧ w'.tape = w.tape ∧ w'.os = w.os ∧ w'.output = w.output) := by
  have hc := calls_of hm hp hf h (ι := fun _ => none) (w := w) (vargs := #[]) rfl ⟨fun b ob hb => by simp [Tr.get_E] at hb, fun b ob b' ob' hb => by simp [Tr.get_E] at hb⟩ (fun b _ => Tr.get_E b) (fun _ _ _ => rfl)
  intro cs
  obtain ⟨e, w', fr, ⟨ι', u, rfl, hu, _, hst⟩, g1, g2, g3⟩ := hc cs
  simp only [VRel] at hu
  subst hu
  exact ⟨_, w', fr, ⟨rfl, hst.size, fun r hr => hst.keep r hr (fun b ob p q hb => by simp [Tr.get_E] at hb), hst.tape, hst.os, hst.output⟩, g1, g2, g3⟩
end
end Go.Ab
/- Calls that are known beforehand: an entry is checked in a small memory, and holds in each that has it as a part. -/
set_option linter.unusedSimpArgs false
set_option linter.unusedVariables false
namespace Go.Ab
open Go

namespace Tr
variable {α : Type}
def dels : Tr α → Tr α → Tr α
  | .E, _ => .E
  | .N v l r, .E => .N v l r
  | .N v l r, .N k l' r' => .N (match k with | some _ => none | none => v) (dels l l') (dels r r')
def over : Tr α → Tr α → Tr α
  | .E, t => t
  | .N v l r, .E => .N v l r
  | .N v l r, .N k l' r' => .N (match v with | some x => some x | none => k) (over l l') (over r r')
theorem get_dels : ∀ (s : S) (a k : Tr α), (dels a k).get s = match k.get s with | some _ => none | none => a.get s
  | s, .E, k => by simp only [dels, get_E]; split <;> rfl
  | s, .N v l r, .E => by simp only [dels, get_E]
  | .o, .N v l r, .N k l' r' => by simp only [dels, get]
  | .l s, .N v l r, .N k l' r' => by simp only [dels, get]; exact get_dels s l l'
  | .r s, .N v l r, .N k l' r' => by simp only [dels, get]; exact get_dels s r r'
theorem get_over : ∀ (s : S) (a k : Tr α), (over a k).get s = match a.get s with | some x => some x | none => k.get s
  | s, .E, k => by simp only [over, get_E]
  | s, .N v l r, .E => by simp only [over, get_E]; split <;> simp_all
  | .o, .N v l r, .N k l' r' => by simp only [over, get]
  | .l s, .N v l r, .N k l' r' => by simp only [over, get]; exact get_over s l l'
  | .r s, .N v l r, .N k l' r' => by simp only [over, get]; exact get_over s r r'
/-- the blocks, one by one -/
theorem exL : ∀ (D : Tr α), ∃ xs : List (S × α), (∀ x ∈ xs, D.get x.1 = some x.2) ∧ ∀ b x, D.get b = some x → ∃ y ∈ xs, y.1 = b
  | .E => ⟨[], by simp, fun b x h => by simp [get_E] at h⟩
  | .N v l r => by
    obtain ⟨xl, a1, a2⟩ := exL l
    obtain ⟨xr, b1, b2⟩ := exL r
    refine ⟨(match v with | some x => [(S.o, x)] | none => []) ++ (xl.map fun y => (.l y.1, y.2)) ++ (xr.map fun y => (.r y.1, y.2)), fun x hx => ?_, fun b x h => ?_⟩
    · simp only [List.mem_append, List.mem_map] at hx
      rcases hx with (hx | ⟨y, hy, rfl⟩) | ⟨y, hy, rfl⟩
      · cases v with
        | none => simp at hx
        | some v => simp at hx; subst hx; rfl
      · exact a1 y hy
      · exact b1 y hy
    · cases b with
      | o => simp only [get] at h; subst h; exact ⟨(.o, x), by simp, rfl⟩
      | l s =>
        obtain ⟨y, hy, e⟩ := a2 s x h
        exact ⟨(.l y.1, y.2), by simp only [List.mem_append, List.mem_map]; exact .inl (.inr ⟨y, hy, rfl⟩), by rw [e]⟩
      | r s =>
        obtain ⟨y, hy, e⟩ := b2 s x h
        exact ⟨(.r y.1, y.2), by simp only [List.mem_append, List.mem_map]; exact .inr ⟨y, hy, rfl⟩, by rw [e]⟩
end Tr

theorem addL_get {D : Hp} : ∀ {xs : List (S × Ob)} {H : Hp} {b : S}, (∀ x ∈ xs, D.get x.1 = some x.2) → (∃ x ∈ xs, x.1 = b) → (addL H xs).get b = D.get b
  | [], H, b, _, h => by simp at h
  | x :: xs, H, b, hd, h => by
    rw [addL_cons]
    by_cases h1 : ∃ y ∈ xs, y.1 = b
    · exact addL_get (fun y hy => hd y (by simp [hy])) h1
    · have h2 : ∀ y ∈ xs, y.1 ≠ b := fun y hy e => h1 ⟨y, hy, e⟩
      rw [addL_not h2, Tr.get_set]
      obtain ⟨y, hy, e⟩ := h
      simp only [List.mem_cons] at hy
      rcases hy with rfl | hy
      · rw [if_pos e.symm, ← e]; exact (hd y (by simp)).symm
      · exact absurd e (h2 y hy)

def sameE : List (AV × AV × Nat) → List (AV × AV × Nat) → Bool
  | [], [] => true
  | (a, b, c) :: l, (a', b', c') :: l' => a.same a' && b.same b' && c.beq c' && sameE l l'
  | _, _ => false
def Ob.same : Ob → Ob → Bool
  | .cells a, .cells b => sameL a b
  | .map a k, .map b k' => sameE a b && k.beq k'
  | _, _ => false
theorem sameE_eq : ∀ {a b : List (AV × AV × Nat)}, sameE a b = true → a = b
  | [], [], _ => rfl
  | (a, b, c) :: l, (a', b', c') :: l', h => by
    simp only [sameE, Bool.and_eq_true] at h
    obtain ⟨⟨⟨h1, h2⟩, h3⟩, h4⟩ := h
    rw [AV.same_eq h1, AV.same_eq h2, Nat.eq_of_beq_eq_true h3, sameE_eq h4]
  | [], _ :: _, h => by simp [sameE] at h
  | _ :: _, [], h => by simp [sameE] at h
theorem Ob.same_eq : ∀ {a b : Ob}, a.same b = true → a = b
  | .cells a, .cells b, h => by simp only [Ob.same] at h; rw [sameL_eq h]
  | .map a k, .map b k', h => by
    simp only [Ob.same, Bool.and_eq_true] at h
    rw [sameE_eq h.1, Nat.eq_of_beq_eq_true h.2]
  | .cells _, .map _ _, h => by simp [Ob.same] at h
  | .cells _, .loop .., h => by simp [Ob.same] at h
  | .map _ _, .cells _, h => by simp [Ob.same] at h
  | .map _ _, .loop .., h => by simp [Ob.same] at h
  | .loop .., .cells _, h => by simp [Ob.same] at h
  | .loop .., .map _ _, h => by simp [Ob.same] at h
  | .loop .., .loop .., h => by simp [Ob.same] at h
/-- each block of the one is one of the other -/
def subT : Hp → Hp → Bool
  | .E, _ => true
  | .N (some _) _ _, .E => false
  | .N none l r, .E => subT l .E && subT r .E
  | .N none l r, .N _ l' r' => subT l l' && subT r r'
  | .N (some x) l r, .N (some y) l' r' => x.same y && (subT l l' && subT r r')
  | .N (some _) _ _, .N none _ _ => false
def Sub (a b : Hp) : Prop := ∀ s x, a.get s = some x → b.get s = some x
theorem subT_ok : ∀ {a b : Hp}, subT a b = true → Sub a b
  | .E, _, _ => fun s x h => by simp [Tr.get_E] at h
  | .N (some _) _ _, .E, h => by simp [subT] at h
  | .N none l r, .E, h => by
    simp only [subT, Bool.and_eq_true] at h
    intro s x hs
    cases s with
    | o => simp [Tr.get] at hs
    | l s => have := subT_ok h.1 s x hs; simp [Tr.get_E] at this
    | r s => have := subT_ok h.2 s x hs; simp [Tr.get_E] at this
  | .N none l r, .N _ l' r', h => by
    simp only [subT, Bool.and_eq_true] at h
    intro s x hs
    cases s with
    | o => simp [Tr.get] at hs
    | l s => exact subT_ok h.1 s x hs
    | r s => exact subT_ok h.2 s x hs
  | .N (some x) l r, .N (some y) l' r', h => by
    simp only [subT, Bool.and_eq_true] at h
    intro s z hs
    cases s with
    | o => simp only [Tr.get] at hs ⊢; rw [← hs, Ob.same_eq h.1]
    | l s => exact subT_ok h.2.1 s z hs
    | r s => exact subT_ok h.2.2 s z hs
  | .N (some _) _ _, .N none _ _, h => by simp [subT] at h
/-- what lies in the first and in the second lies in the third -/
def keepT : Hp → Hp → Hp → Bool
  | .E, _, _ => true
  | .N _ _ _, .E, _ => true
  | .N v l r, .N v' l' r', .E => (match v, v' with | some _, some _ => false | _, _ => true) && (keepT l l' .E && keepT r r' .E)
  | .N v l r, .N v' l' r', .N k l2 r2 => (match v, v', k with | some _, some _, none => false | _, _, _ => true) && (keepT l l' l2 && keepT r r' r2)
theorem keepT_ok : ∀ {a b c : Hp}, keepT a b c = true → ∀ s x y, a.get s = some x → b.get s = some y → ∃ z, c.get s = some z
  | .E, _, _, _ => fun s x y h => by simp [Tr.get_E] at h
  | .N _ _ _, .E, _, _ => fun s x y _ h => by simp [Tr.get_E] at h
  | .N v l r, .N v' l' r', .E, h => by
    simp only [keepT, Bool.and_eq_true] at h
    intro s x y hx hy
    cases s with
    | o => simp only [Tr.get] at hx hy; subst hx hy; simp at h
    | l s => obtain ⟨z, hz⟩ := keepT_ok h.2.1 s x y hx hy; simp [Tr.get_E] at hz
    | r s => obtain ⟨z, hz⟩ := keepT_ok h.2.2 s x y hx hy; simp [Tr.get_E] at hz
  | .N v l r, .N v' l' r', .N k l2 r2, h => by
    simp only [keepT, Bool.and_eq_true] at h
    intro s x y hx hy
    cases s with
    | o =>
      simp only [Tr.get] at hx hy; subst hx hy
      cases k with
      | none => simp at h
      | some k => exact ⟨k, rfl⟩
    | l s => exact keepT_ok h.2.1 s x y hx hy
    | r s => exact keepT_ok h.2.2 s x y hx hy

/-- a call that is known: its arguments, the next name, the part of the memory that it needs; what it gives -/
structure En where
  args : List AV
  nx : S
  H : Hp
  v : AV
  nx' : S
  H' : Hp
/-- the entry is what the evaluator gives (blocks of its own may be left out) -/
def chk (prog : Nat → Option Fun) (k f : Nat) (e : En) : Bool :=
  match callN prog k (.fn f) e.args e.nx e.H with
  | .mk v nx h => v.same e.v && nx.beq e.nx' && subT e.H' h && keepT e.H h e.H'
  | .bad => false
def seekE (nx : S) : List En → Option En
  | [] => none
  | e :: es => bif e.nx.beq nx then some e else seekE nx es
def knownA (es : List En) (args : List AV) (nx : S) (H : Hp) : RV :=
  match seekE nx es with
  | none => .bad
  | some e => bif sameL args e.args && subT e.H H then .mk e.v e.nx' ((H.dels e.H).over e.H') else .bad
theorem seekE_some {nx : S} {e : En} : ∀ {es : List En}, seekE nx es = some e → e ∈ es ∧ e.nx = nx
  | [], h => by simp [seekE] at h
  | x :: es, h => by
    simp only [seekE] at h
    cases hb : x.nx.beq nx with
    | true => rw [hb] at h; simp at h; subst h; exact ⟨by simp, S.beq_eq hb⟩
    | false => rw [hb] at h; simp at h; have := seekE_some h; exact ⟨by simp [this.1], this.2⟩
theorem knownA_some {es : List En} {args : List AV} {nx nx' : S} {H H' : Hp} {v : AV} (h : knownA es args nx H = .mk v nx' H') :
    ∃ e ∈ es, e.nx = nx ∧ args = e.args ∧ Sub e.H H ∧ v = e.v ∧ nx' = e.nx' ∧ H' = (H.dels e.H).over e.H' := by
  unfold knownA at h
  split at h
  · simp at h
  rename_i e he
  obtain ⟨h1, h2⟩ := seekE_some he
  cases hb : sameL args e.args && subT e.H H with
  | false => rw [hb] at h; simp at h
  | true =>
    rw [hb] at h; simp at h
    simp only [Bool.and_eq_true] at hb
    obtain ⟨rfl, rfl, rfl⟩ := h
    exact ⟨e, h1, h2, sameL_eq hb.1, subT_ok hb.2, rfl, rfl, rfl⟩
theorem chk_some {prog : Nat → Option Fun} {k f : Nat} {e : En} (h : chk prog k f e = true) :
    ∃ Hf, callN prog k (.fn f) e.args e.nx e.H = .mk e.v e.nx' Hf ∧ Sub e.H' Hf ∧ ∀ s x y, e.H.get s = some x → Hf.get s = some y → ∃ z, e.H'.get s = some z := by
  unfold chk at h
  split at h
  case h_2 => simp at h
  rename_i v nx Hf hc
  simp only [Bool.and_eq_true] at h
  obtain ⟨⟨⟨h1, h2⟩, h3⟩, h4⟩ := h
  refine ⟨Hf, ?_, subT_ok h3, keepT_ok h4⟩
  rw [hc, AV.same_eq h1, S.beq_eq h2]

section
variable {P : Program} {ι ι' : Io} {H H1 H2 H' : Hp} {w w' : World} {nx nx' : S}
theorem HRel.part (h : HRel P ι H w) (hs : Sub H1 H) : HRel P ι H1 w :=
  ⟨fun b ob hb => h.obj b ob (hs b ob hb), fun b ob b' ob' hb hb' => h.inj b ob b' ob' (hs _ _ hb) (hs _ _ hb')⟩
theorem Sub.of (h : ∀ b, H1.get b = H2.get b) : Sub H1 H2 := fun b x hb => by rw [← h]; exact hb
theorem St.cong2 (h : St ι H nx nx' w ι' H' w') (e1 : ∀ b, H1.get b = H.get b) (e2 : ∀ b, H2.get b = H'.get b) : St ι H1 nx nx' w ι' H2 w' where
  tape := h.tape
  os := h.os
  output := h.output
  size := h.size
  le := h.le
  out := h.out
  keep r hr hn := h.keep r hr fun b ob p q hb => hn b ob p q (by rw [e1]; exact hb)
  sub b ob r p q hb hi hr := by
    rw [e2] at hb
    obtain ⟨b0, ob0, p0, q0, g1, g2⟩ := h.sub b ob r p q hb hi hr
    exact ⟨b0, ob0, p0, q0, by rw [e1]; exact g1, g2⟩
  pres b hb hn := by rw [e1, e2]; exact h.pres b hb hn
  nxle := h.nxle
end

theorem known_ext {prog : Nat → Option Fun} (hp : PreExt prog) {k f : Nat} {es : List En} (hc : ∀ e ∈ es, chk prog k f e = true) : GExt (knownA es) := by
  intro args nx H v nx' H' h
  obtain ⟨e, he, rfl, rfl, hsub, rfl, rfl, rfl⟩ := knownA_some h
  obtain ⟨Hf, h1, h2, h3⟩ := chk_some (hc e he)
  have hx := callN_wf hp k _ _ _ _ _ _ _ h1
  refine ⟨hx.1, fun b hb hn => ?_⟩
  have h0 : e.H.get b = none := by
    cases hq : e.H.get b with
    | none => rfl
    | some x => rw [hsub b x hq] at hn; simp at hn
  have hf := hx.2 b hb h0
  have h0' : e.H'.get b = none := by
    cases hq : e.H'.get b with
    | none => rfl
    | some x => rw [h2 b x hq] at hf; simp at hf
  rw [Tr.get_over, Tr.get_dels, h0, hn, h0']
theorem known_ok {P : Program} (hm : P.follows .mixedOrders = true) {prog : Nat → Option Fun} (hp : ProgOK P prog) {k f : Nat} {es : List En} (hc : ∀ e ∈ es, chk prog k f e = true) : GOK P f (knownA es) := by
  intro args nx H v nx' H' h ι w vargs hv hH hwf hfr c cs
  obtain ⟨e, he, rfl, rfl, hsub, rfl, rfl, rfl⟩ := knownA_some h
  obtain ⟨Hf, h1, h2, h3⟩ := chk_some (hc e he)
  have hx := callN_wf hp.ext k _ _ _ _ _ _ _ h1
  have hcall := (callN_ok hm hp k _ _ _ _ _ _ _ h1 ι w vargs hv (hH.part hsub) (fun b hb => by
    cases hq : e.H.get b with
    | none => rfl
    | some x => have := hwf b hb; rw [hsub b x hq] at this; simp at this) hfr).2
  obtain ⟨ι', w', u, g1, g2, g3, g4⟩ := hcall c cs
  have g3' : HRel P ι' e.H' w' := g3.part h2
  have g4' : St ι e.H e.nx e.nx' w ι' e.H' w' := ⟨g4.tape, g4.os, g4.output, g4.size, g4.le, g4.out, g4.keep, fun b ob r p q hb => g4.sub b ob r p q (h2 b ob hb), fun b hb hn => by
    have hf := g4.pres b hb hn
    cases hq : e.H.get b with
    | none =>
      have hf := hx.2 b hb hq
      cases hq' : e.H'.get b with
      | none => rfl
      | some x => rw [h2 b x hq'] at hf; simp at hf
    | some x =>
      rw [hq] at hf
      obtain ⟨z, hz⟩ := h3 b x x hq hf
      have := h2 b z hz
      rw [hf] at this
      rw [hz]; exact this.symm, g4.nxle⟩
  obtain ⟨xs, d1, d2⟩ := Tr.exL (H.dels e.H)
  have hin : ∀ x ∈ xs, H.get x.1 = some x.2 ∧ e.H.get x.1 = none := fun x hx => by
    have := d1 x hx
    rw [Tr.get_dels] at this
    split at this
    · simp at this
    · rename_i h; exact ⟨this, h⟩
  have eH : ∀ b, (addL e.H xs).get b = H.get b := fun b => by
    by_cases hb : ∃ x ∈ xs, x.1 = b
    · rw [addL_get d1 hb]
      obtain ⟨x, hx, rfl⟩ := hb
      rw [d1 x hx, (hin x hx).1]
    · rw [addL_not (fun x hx e => hb ⟨x, hx, e⟩)]
      cases hq : e.H.get b with
      | some x => rw [hsub b x hq]
      | none =>
        cases hq' : H.get b with
        | none => rfl
        | some x => exact absurd (d2 b x (by rw [Tr.get_dels, hq]; exact hq')) hb
  have eH' : ∀ b, ((H.dels e.H).over e.H').get b = (addL e.H' xs).get b := fun b => by
    rw [Tr.get_over]
    by_cases hb : ∃ x ∈ xs, x.1 = b
    · rw [addL_get d1 hb]
      obtain ⟨x, hx, rfl⟩ := hb
      rw [d1 x hx]
    · rw [addL_not (fun x hx e => hb ⟨x, hx, e⟩)]
      cases hq : (H.dels e.H).get b with
      | none => rfl
      | some x => exact absurd (d2 b x hq) hb
  obtain ⟨k1, k2⟩ := frame_add (xs := xs) (fun x hx' => ⟨.inl (by
      rcases Nat.lt_or_ge x.1.toNat e.nx.toNat with h | h
      · exact h
      · have := hwf x.1 h; rw [(hin x hx').1] at this; simp at this), (hin x hx').2⟩)
    (hH.part (Sub.of eH)) g3' g4'
  exact ⟨ι', w', u, g1, g2, k1.part (Sub.of eH'), k2.cong2 (fun b => (eH b).symm) eH'⟩

/-- a program of which more is known -/
def extP (prog : Nat → Option Fun) (tb : Nat → List En) (f : Nat) : Option Fun :=
  match prog f with
  | none => none
  | some (.code cd) => match tb f with
    | [] => some (.code cd)
    | es => some (.pre (knownA es) cd)
  | some (.pre g cd) => match tb f with
    | [] => some (.pre g cd)
    | es => some (.pre (fun a nx h => match knownA es a nx h with
      | .mk v nx h => .mk v nx h
      | .bad => g a nx h) cd)
theorem extP_ok {P : Program} (hm : P.follows .mixedOrders = true) {prog : Nat → Option Fun} (hp : ProgOK P prog) {k : Nat} {tb : Nat → List En} (hc : ∀ f, ∀ e ∈ tb f, chk prog k f e = true) : ProgOK P (extP prog tb) := by
  refine ⟨fun f cd h => ?_, fun f g cd h => ?_⟩
  · unfold extP at h
    split at h
    · simp at h
    · rename_i cd' hq
      split at h <;> simp at h
      subst h
      exact hp.code f _ hq
    · split at h <;> simp at h
  · unfold extP at h
    split at h
    · simp at h
    · rename_i cd' hq
      split at h <;> simp at h
      obtain ⟨rfl, rfl⟩ := h
      exact ⟨hp.code f _ hq, known_ext hp.ext (hc f), known_ok hm hp (hc f)⟩
    · rename_i g' cd' hq
      obtain ⟨p1, p2, p3⟩ := hp.pre f _ _ hq
      split at h <;> simp at h
      · obtain ⟨rfl, rfl⟩ := h; exact ⟨p1, p2, p3⟩
      · obtain ⟨rfl, rfl⟩ := h
        refine ⟨p1, fun args nx H v nx' H' h => ?_, fun args nx H v nx' H' h => ?_⟩ <;> simp only [] at h
        · split at h
          · rename_i hk; simp only [RV.mk.injEq] at h; obtain ⟨rfl, rfl, rfl⟩ := h
            exact known_ext hp.ext (hc f) _ _ _ _ _ _ hk
          · exact p2 _ _ _ _ _ _ h
        · split at h
          · rename_i hk; simp only [RV.mk.injEq] at h; obtain ⟨rfl, rfl, rfl⟩ := h
            exact known_ok hm hp (hc f) _ _ _ _ _ _ hk
          · exact p3 _ _ _ _ _ _ h
/-- a table: functions and the calls of each that are known -/
def tbl : List (Nat × List En) → Nat → List En
  | [], _ => []
  | (g, es) :: r, f => bif g.beq f then es else tbl r f
def AllOK (prog : Nat → Option Fun) (k f : Nat) : List En → Prop
  | [] => True
  | e :: es => chk prog k f e = true ∧ AllOK prog k f es
def TblOK (prog : Nat → Option Fun) (k : Nat) : List (Nat × List En) → Prop
  | [] => True
  | p :: r => AllOK prog k p.1 p.2 ∧ TblOK prog k r
theorem AllOK.ap {prog : Nat → Option Fun} {k f : Nat} : ∀ {es : List En}, AllOK prog k f es → ∀ e ∈ es, chk prog k f e = true
  | [], _, e, he => by simp at he
  | x :: es, h, e, he => by
    simp only [List.mem_cons] at he
    rcases he with rfl | he
    · exact h.1
    · exact h.2.ap e he
theorem tbl_ok {prog : Nat → Option Fun} {k : Nat} : ∀ {l : List (Nat × List En)}, TblOK prog k l → ∀ f, ∀ e ∈ tbl l f, chk prog k f e = true
  | [], _, f, e, he => by simp [tbl] at he
  | (g, es) :: r, h, f, e, he => by
    simp only [tbl] at he
    cases hb : g.beq f with
    | true => rw [hb] at he; rw [← Nat.eq_of_beq_eq_true hb]; exact h.1.ap e he
    | false => rw [hb] at he; exact tbl_ok h.2 f e he
/-- a program in a trie -/
def FunOK (P : Program) (f : Nat) : Fun → Prop
  | .code cd => CodeIs P f cd
  | .pre g cd => CodeIs P f cd ∧ GExt g ∧ GOK P f g
def AllF (P : Program) : (S → S) → Tr Fun → Prop
  | _, .E => True
  | j, .N v l r => (match v with
    | none => True
    | some x => FunOK P (j .o).toNat x) ∧ AllF P (fun s => j (.l s)) l ∧ AllF P (fun s => j (.r s)) r
theorem AllF.ap {P : Program} : ∀ {t : Tr Fun} {j : S → S}, AllF P j t → ∀ s x, t.get s = some x → FunOK P (j s).toNat x
  | .E, _, _, s, x, h => by simp [Tr.get_E] at h
  | .N v l r, j, h, s, x, hx => by
    cases s with
    | o => simp only [Tr.get] at hx; subst hx; exact h.1
    | l s => exact AllF.ap (t := l) h.2.1 s x hx
    | r s => exact AllF.ap (t := r) h.2.2 s x hx
theorem prog_ok {P : Program} {t : Tr Fun} (h : AllF P (fun s => s) t) : ProgOK P (fun f => t.get (S.ofNat f)) := by
  refine ⟨fun f cd hf => ?_, fun f g cd hf => ?_⟩
  · have := h.ap _ _ hf; rw [S.toNat_ofNat] at this; exact this
  · have := h.ap _ _ hf; rw [S.toNat_ofNat] at this; exact this
def cq (P : Program) (f : Nat) : Option Fun := match P.funcs[f]? with
  | none => none
  | some fd => bif fd.name == "runtime.NumGoroutine" then none else cFn P fd
theorem cq_ok {P : Program} {f : Nat} {cd : Cd} (h : cq P f = some (.code cd)) : CodeIs P f cd := by
  unfold cq at h
  split at h
  · simp at h
  · rename_i fd hf
    cases hn : fd.name == "runtime.NumGoroutine" with
    | true => rw [hn] at h; simp at h
    | false => rw [hn] at h; exact ⟨fd, hf, h, hn⟩
end Go.Ab
/- slices.Insert into the midst of a slice of four-celled elements: from what the two walks show of rows to what the evaluator takes it for. -/
set_option linter.unusedSimpArgs false
set_option linter.unusedVariables false
namespace Go.Ab
open Go

def AV.plain (x : AV) : Bool := x.one && !(isU8 x)
/-- .. where every cell is one, and none is a byte -/
def insA (size bytes : Nat) (args : List AV) (nx : S) (h : Hp) : RV :=
  match args with
  | [s, i, v] => match elemsOf h size s, elemsOf h size v with
    | some (_, xs), some (_, ys) => bif xs.all AV.plain && ys.all AV.plain then insertA size bytes [s, i, v] nx h else .bad
    | _, _ => .bad
  | _ => .bad

/-- there is room -/
def ShiftH (P : Program) (f : Nat) : Prop := ∀ (r p n c i rv pv m vc : Nat) (C V : Array Value) (el elv : TypeId) (fz fzv : Nat × Nat) (w : World),
  w.heap[r]? = some (.cells C el fz) → w.heap[rv]? = some (.cells V elv fzv) → rv ≠ r → i < n → 0 < m → n + m ≤ c → n + m ≤ 1073741824 → p + (n + m) * 4 ≤ C.size → pv + m * 4 ≤ V.size →
  (∀ j, j < n * 4 → ∃ x, C[p + j]? = some x ∧ x.oneCell' = true) → (∀ j, j < m * 4 → ∃ x, V[pv + j]? = some x ∧ x.oneCell' = true) →
  (∀ j, p ≤ j → j < p + (n + m) * 4 → (fz.1 ≤ j && j < fz.2) = false) → (fzv.1 ≤ pv && pv < fzv.2) = false → (fzv.1 ≤ V.size && V.size < fzv.2) = false →
  Calls P f #[.slice (some ⟨r, p, none⟩) n c, .int .i64 i, .slice (some ⟨rv, pv, none⟩) m vc] w fun e w' =>
    e = .returned (.slice (some ⟨r, p, none⟩) (n + m) c) ∧ ∃ C', w'.heap[r]? = some (.cells C' el fz) ∧ C'.size = C.size ∧
      (∀ j, j < (n + m) * 4 → C'[p + j]? = if j < i * 4 then C[p + j]? else if j < (i + m) * 4 then V[pv + (j - i * 4)]? else C[p + (j - m * 4)]?) ∧
      w'.heap.size = w.heap.size ∧ (∀ r', r' ≠ r → w'.heap[r']? = w.heap[r']?) ∧ w'.tape = w.tape ∧ w'.os = w.os ∧ w'.output = w.output
/-- there is none -/
def GrowH (P : Program) (f : Nat) : Prop := ∀ (r p n c i rv pv m vc : Nat) (C V : Array Value) (el elv : TypeId) (fz fzv : Nat × Nat) (w : World),
  w.heap[r]? = some (.cells C el fz) → w.heap[rv]? = some (.cells V elv fzv) → rv ≠ r → i < n → 0 < m → n ≤ c → c < n + m → (n + m) * 32 ≤ 2 ^ 36 → p + n * 4 ≤ C.size → pv + m * 4 ≤ V.size →
  (∀ j, j < n * 4 → ∃ x, C[p + j]? = some x ∧ x.oneCell' = true) → (∀ j, j < m * 4 → ∃ x, V[pv + j]? = some x ∧ x.oneCell' = true) →
  Calls P f #[.slice (some ⟨r, p, none⟩) n c, .int .i64 i, .slice (some ⟨rv, pv, none⟩) m vc] w fun e w' =>
    ∃ G C' el' d, n + m ≤ G ∧ e = .returned (.slice (some ⟨w.heap.size, 0, none⟩) (n + m) G) ∧ C'.size = G * 4 ∧ w' = { w with heap := w.heap.push (.cells C' el'), drawn := d } ∧
      (∀ j, j < (n + m) * 4 → C'[j]? = if j < i * 4 then C[p + j]? else if j < (i + m) * 4 then V[pv + (j - i * 4)]? else C[p + (j - m * 4)]?)

theorem elemsOf_slice {h : Hp} {size z o n k : Nat} {b : S} {c : Cap} {l : List AV} (e : elemsOf h size (.slice z b o n c) = some (k, l)) :
    z = size ∧ k = n ∧ ∃ cs, cellsOf h b = some cs ∧ rowOf cs o (n * size) = some l := by
  simp only [elemsOf] at e
  split at e
  case isFalse => simp at e
  rename_i hz
  split at e
  case h_2 => simp at e
  rename_i cs hcs
  split at e
  case h_2 => simp at e
  rename_i l' hl
  simp at e; obtain ⟨rfl, rfl⟩ := e
  exact ⟨hz, rfl, cs, hcs, hl⟩
theorem insA_some {size bytes : Nat} {args : List AV} {nx nx' : S} {H H' : Hp} {v : AV} (h : insA size bytes args nx H = .mk v nx' H') :
    insertA size bytes args nx H = .mk v nx' H' ∧ ∃ s i v', args = [s, i, v'] ∧ ∃ a xs b ys, elemsOf H size s = some (a, xs) ∧ elemsOf H size v' = some (b, ys) ∧ xs.all AV.plain = true ∧ ys.all AV.plain = true := by
  unfold insA at h
  split at h
  case h_2 => simp at h
  rename_i s i v'
  split at h
  case h_2 => simp at h
  rename_i a xs b ys h1 h2
  cases hb : xs.all AV.plain && ys.all AV.plain with
  | false => rw [hb] at h; simp at h
  | true =>
    rw [hb] at h
    simp only [Bool.and_eq_true] at hb
    exact ⟨h, s, i, v', rfl, a, xs, b, ys, h1, h2, hb.1, hb.2⟩
theorem insA_ext (size bytes : Nat) : GExt (insA size bytes) := fun _ _ _ _ _ _ h => insertA_ext (insA_some h).1

theorem capRel_le {c : Cap} {n cap : Nat} (h : CapRel c n cap) : n ≤ cap := by
  cases c with
  | exact c => obtain ⟨rfl, h⟩ := h; exact h
  | upto lb => exact Nat.le_trans h.1 h.2
section
variable {P : Program}
theorem plainCell {ι : Io} {cs l : List AV} {o k : Nat} (hl : rowOf cs o k = some l) (hp : l.all AV.plain = true) {C : Array Value} {p : Nat} (hC : ∀ (i : Nat) (x : AV), cs[i]? = some x → ∃ y, C[p + i]? = some y ∧ VRel ι x y) :
    ∀ j, j < k → ∃ a y, l[j]? = some a ∧ a.plain = true ∧ C[p + o + j]? = some y ∧ VRel ι a y ∧ y.oneCell' = true := by
  intro j hj
  obtain ⟨h1, h2, h3⟩ := rowOf_some hl
  have hlt : j < l.length := by omega
  have ha : l[j]? = some l[j] := List.getElem?_eq_getElem hlt
  have hpl : (l[j]).plain = true := by
    rw [List.all_eq_true] at hp
    exact hp _ (List.getElem_mem hlt)
  obtain ⟨y, hy1, hy2⟩ := hC (o + j) l[j] (by rw [← h3 j hj]; exact ha)
  refine ⟨l[j], y, ha, hpl, by rw [Nat.add_assoc]; exact hy1, hy2, hy2.one ?_⟩
  unfold AV.plain at hpl
  simp only [Bool.and_eq_true] at hpl
  exact hpl.1
theorem calls_ret {f : FuncId} {args : Array Value} {w : World} {Q : Value → World → Prop} (h : Calls P f args w fun e w' => ∃ v, e = .returned v ∧ Q v w') (c : Frame) (cs : List Frame) :
    ∃ v w', Go.Steps P (lone (Frame.enter P f args .normal) (c :: cs) w) (lone (c.finish v) cs w') ∧ Q v w' := by
  obtain ⟨e, w', fr, ⟨v, rfl, hq⟩, g1, g2, g3⟩ := h (c :: cs)
  exact ⟨v, w', .trans g1 (.one (step_leave_returned g3)), hq⟩

/-- the cells of the list that comes out, where it comes to lie -/
theorem ins_cells {ι : Io} {n m i : Nat} {xs ys : List AV} (hx : xs.length = n * 4) (hy : ys.length = m * 4) (hi : i < n) {C V C' : Array Value} {p pv p' : Nat}
    (hC : ∀ j, j < n * 4 → ∃ a y, xs[j]? = some a ∧ C[p + j]? = some y ∧ VRel ι a y) (hV : ∀ j, j < m * 4 → ∃ a y, ys[j]? = some a ∧ V[pv + j]? = some y ∧ VRel ι a y)
    (hC' : ∀ j, j < (n + m) * 4 → C'[p' + j]? = if j < i * 4 then C[p + j]? else if j < (i + m) * 4 then V[pv + (j - i * 4)]? else C[p + (j - m * 4)]?) :
    ∀ j x, (xs.take (i * 4) ++ ys ++ xs.drop (i * 4))[j]? = some x → ∃ y, C'[p' + j]? = some y ∧ VRel ι x y := by
  intro j x hj
  have hlt : j < (xs.take (i * 4) ++ ys ++ xs.drop (i * 4)).length := (List.getElem?_eq_some_iff.1 hj).1
  simp only [List.length_append, List.length_take, List.length_drop] at hlt
  rw [hC' j (by omega)]
  by_cases h1 : j < i * 4
  · rw [if_pos h1]
    rw [List.append_assoc, List.getElem?_append_left (by rw [List.length_take]; omega), List.getElem?_take, if_pos h1] at hj
    obtain ⟨a, y, e1, e2, e3⟩ := hC j (by omega)
    rw [e1] at hj; simp at hj; subst hj
    exact ⟨y, e2, e3⟩
  · rw [if_neg h1]
    by_cases h2 : j < (i + m) * 4
    · rw [if_pos h2]
      rw [List.append_assoc, List.getElem?_append_right (by rw [List.length_take]; omega), List.length_take, List.getElem?_append_left (by omega)] at hj
      rw [show min (i * 4) xs.length = i * 4 by omega] at hj
      obtain ⟨a, y, e1, e2, e3⟩ := hV (j - i * 4) (by omega)
      rw [e1] at hj; simp at hj; subst hj
      exact ⟨y, e2, e3⟩
    · rw [if_neg h2]
      rw [List.getElem?_append_right (by simp only [List.length_append, List.length_take]; omega), List.length_append, List.length_take, List.getElem?_drop] at hj
      rw [show i * 4 + (j - (min (i * 4) xs.length + ys.length)) = j - m * 4 by omega] at hj
      obtain ⟨a, y, e1, e2, e3⟩ := hC (j - m * 4) (by omega)
      rw [e1] at hj; simp at hj; subst hj
      exact ⟨y, e2, e3⟩

theorem sbeq_refl : ∀ s : S, s.beq s = true
  | .o => rfl
  | .l s => sbeq_refl s
  | .r s => sbeq_refl s
theorem ins_ok {f : Nat} (hs : ShiftH P f) (hg : GrowH P f) : GOK P f (insA 4 32) := by
  intro args nx H v nx' H' h ι w vargs hv hH hwf hfr c cs
  obtain ⟨h0, s, i, v', rfl, k1, xs, k2, ys, he1, he2, hpx, hpy⟩ := insA_some h
  unfold insertA at h0
  split at h0
  case h_2 => simp at h0
  rename_i z b n cp i z' b' o' m cp' hargs
  simp only [List.cons.injEq, and_true] at hargs
  obtain ⟨rfl, rfl, rfl⟩ := hargs
  rw [he1, he2] at h0
  simp only [] at h0
  split at h0
  case isFalse => simp at h0
  rename_i hc
  obtain ⟨rfl, rfl, t, ht, hxs⟩ := elemsOf_slice he1
  obtain ⟨rfl, rfl, t', ht', hys⟩ := elemsOf_slice he2
  obtain ⟨hi0, hin, hm0, hbb, hlim, hlim2⟩ := hc
  simp only [RV.mk.injEq] at h0
  obtain ⟨rfl, rfl, rfl⟩ := h0
  obtain ⟨iN, rfl⟩ : ∃ iN : Nat, i = (iN : Int) := ⟨i.toNat, by omega⟩
  have hiN : iN < k1 := by omega
  simp only [Int.toNat_natCast]
  obtain ⟨sv, r1, hva, hsv, iv, r2, rfl, hiv, vv, r3, rfl, hvv, hr3⟩ := hv
  simp only [VRels] at hr3; subst hr3
  have hvargs : vargs = #[sv, iv, vv] := by apply Array.ext'; rw [hva]
  subst hvargs
  simp only [VRel] at hiv; subst hiv
  obtain ⟨r, p, q, a, cap, hib, rfl, hcr, had⟩ := hsv
  obtain ⟨rv, pv, qv, av, capv, hibv, rfl, hcrv, hadv⟩ := hvv
  have hnc := capRel_le hcr
  have hmc := capRel_le hcrv
  obtain ⟨rfl, hq⟩ := had.resolve_left (by omega)
  obtain ⟨rfl, hqv⟩ := hadv.resolve_left (by omega)
  obtain ⟨C, el, fz, c1, c2, c3, c4, c5, c6⟩ := hH.cells ht hib
  obtain ⟨V, elv, fzv, d1, d2, d3, d4, d5, d6⟩ := hH.cells ht' hibv
  have hne : rv ≠ r := by
    rintro rfl
    have := hH.inj b _ b' _ (cellsOf_get ht) (cellsOf_get ht') _ _ _ _ _ hib hibv
    subst this
    rw [sbeq_refl] at hbb
    simp at hbb
  obtain ⟨x1, x2, x3⟩ := rowOf_some hxs
  obtain ⟨y1, y2, y3⟩ := rowOf_some hys
  have hCx := plainCell hxs hpx c4
  have hVy := plainCell hys hpy d4
  simp only [Nat.add_zero] at hCx hq
  have hmark : (fzv.1 ≤ V.size && V.size < fzv.2) = false := by
    cases hb : (fzv.1 ≤ V.size && V.size < fzv.2) with
    | false => rfl
    | true =>
      simp only [Bool.and_eq_true, decide_eq_true_eq] at hb
      obtain ⟨m1, m2⟩ := d6 (by omega) (by omega)
      obtain ⟨a0, y0, e1, e2, e3, e4, e5⟩ := hVy 0 (by omega)
      have := y3 0 (by omega)
      rw [e1] at this
      have hu := m2 a0 (List.mem_of_getElem? this.symm)
      simp [AV.plain, hu] at e2
  have hid : ι nx = none := hfr nx (Nat.le_refl _) (by rw [S.toNat_succ]; omega)
  have hCx' : ∀ j, j < k1 * 4 → ∃ a y, xs[j]? = some a ∧ C[p + j]? = some y ∧ VRel ι a y := fun j hj => let ⟨a, y, e1, e2, e3, e4, e5⟩ := hCx j hj; ⟨a, y, e1, e3, e4⟩
  have hVy' : ∀ j, j < k2 * 4 → ∃ a y, ys[j]? = some a ∧ V[pv + o' + j]? = some y ∧ VRel ι a y := fun j hj => let ⟨a, y, e1, e2, e3, e4, e5⟩ := hVy j hj; ⟨a, y, e1, e3, e4⟩
  have hlen : (xs.take (iN * 4) ++ ys ++ xs.drop (iN * 4)).length = (k1 + k2) * 4 := by
    simp only [List.length_append, List.length_take, List.length_drop]; omega
  by_cases hroom : k1 + k2 ≤ cap
  · have := hs r p k1 cap iN rv (pv + o') k2 capv C V el elv fz fzv w c1 d1 hne hiN (by omega) hroom (by omega) (by omega) (by omega)
      (fun j hj => let ⟨a, y, e1, e2, e3, e4, e5⟩ := hCx j hj; ⟨y, e3, e5⟩) (fun j hj => let ⟨a, y, e1, e2, e3, e4, e5⟩ := hVy j hj; ⟨y, e3, e5⟩)
      (fun j h1 h2 => c5 j h1 (by omega)) (d5 _ (by omega) (by omega)) hmark
    obtain ⟨u, w', g1, rfl, C', g2, g3, g4, g5, g6, g7, g8, g9⟩ := calls_ret (Q := fun u w' => u = .slice (some ⟨r, p, none⟩) (k1 + k2) cap ∧ ∃ C', w'.heap[r]? = some (.cells C' el fz) ∧ C'.size = C.size ∧
      (∀ j, j < (k1 + k2) * 4 → C'[p + j]? = if j < iN * 4 then C[p + j]? else if j < (iN + k2) * 4 then V[pv + o' + (j - iN * 4)]? else C[p + (j - k2 * 4)]?) ∧
      w'.heap.size = w.heap.size ∧ (∀ r', r' ≠ r → w'.heap[r']? = w.heap[r']?) ∧ w'.tape = w.tape ∧ w'.os = w.os ∧ w'.output = w.output) (Calls.mono this fun e w' ⟨h1, h2⟩ => ⟨_, h1, rfl, h2⟩) c cs
    have hle := Io.le_add (ι := ι) (id := nx) (x := (r, p, q)) hid
    have ho : ORel P (ι.add nx (r, p, q)) (.cells (xs.take (iN * 4) ++ ys ++ xs.drop (iN * 4))) p q w'.heap[r]? := by
      refine ⟨C', el, fz, g2, by omega, by omega, fun j x hx => ?_, fun j h1 h2 => c5 j h1 h2, fun m1 m2 => ?_⟩
      · obtain ⟨y, e1, e2⟩ := ins_cells x2 y2 hiN hCx' hVy' g4 j x hx
        exact ⟨y, e1, e2.mono hle⟩
      · obtain ⟨m3, m4⟩ := c6 m1 m2
        obtain ⟨a0, y0, e1, e2, e3, e4, e5⟩ := hCx 0 (by omega)
        have := x3 0 (by omega)
        rw [e1] at this
        have hu := m4 a0 (List.mem_of_getElem? this.symm)
        simp [AV.plain, hu] at e2
    obtain ⟨a1, a2⟩ := adopt_step hH (cellsOf_get ht) hib hid ho g5 g6 g7 g8 g9
    exact ⟨_, w', _, g1, ⟨r, p, q, _, cap, by simp [Io.add], rfl, ⟨Nat.le_refl _, hroom⟩, .inr ⟨rfl, by omega⟩⟩, a1, a2⟩
  · have := hg r p k1 cap iN rv (pv + o') k2 capv C V el elv fz fzv w c1 d1 hne hiN (by omega) hnc (by omega) hlim2 (by omega) (by omega)
      (fun j hj => let ⟨a, y, e1, e2, e3, e4, e5⟩ := hCx j hj; ⟨y, e3, e5⟩) (fun j hj => let ⟨a, y, e1, e2, e3, e4, e5⟩ := hVy j hj; ⟨y, e3, e5⟩)
    obtain ⟨u, w', g1, G, C', el', d, g2, rfl, g3, rfl, g4⟩ := calls_ret (Q := fun u w' => ∃ G C' el' d, k1 + k2 ≤ G ∧ u = .slice (some ⟨w.heap.size, 0, none⟩) (k1 + k2) G ∧ C'.size = G * 4 ∧ w' = { w with heap := w.heap.push (.cells C' el'), drawn := d } ∧
      (∀ j, j < (k1 + k2) * 4 → C'[j]? = if j < iN * 4 then C[p + j]? else if j < (iN + k2) * 4 then V[pv + o' + (j - iN * 4)]? else C[p + (j - k2 * 4)]?))
      (Calls.mono this fun e w' ⟨G, C', el', d, h1, h2, h3, h4, h5⟩ => ⟨_, h2, G, C', el', d, h1, rfl, h3, h4, h5⟩) c cs
    obtain ⟨e1, e2⟩ := del_step hH (b := b) (by rw [hib]; simp) nx
    have hle := Io.le_add (ι := ι) (id := nx) (x := (w.heap.size, 0, G * 4)) hid
    have ho : ORel P (ι.add nx (w.heap.size, 0, G * 4)) (.cells (xs.take (iN * 4) ++ ys ++ xs.drop (iN * 4))) 0 (G * 4) (some (.cells C' el')) := by
      refine ⟨C', el', (0, 0), rfl, g3, by omega, fun j x hx => ?_, fun j _ _ => by simp, fun m1 m2 => by simp at m2⟩
      obtain ⟨y, e1, e2⟩ := ins_cells (p' := 0) x2 y2 hiN hCx' hVy' (fun j hj => by rw [Nat.zero_add]; exact g4 j hj) j x hx
      exact ⟨y, e1, e2.mono hle⟩
    obtain ⟨a1, a2⟩ := alloc_step e1 hid ho d
    exact ⟨_, _, _, g1, VRel.slice_add ⟨Nat.le_refl _, g2⟩ (Nat.le_refl _), a1, e2.trans a2⟩
end
end Go.Ab
/- From calls of the evaluator to contracts of the machine, for arguments that lead to no memory. -/
set_option linter.unusedSimpArgs false
set_option linter.unusedVariables false
namespace Go.Ab
open Go Go.RowKit
section
variable {P : Program}
/-- from arguments that lead nowhere, in an empty memory -/
theorem calls_plain (hm : P.follows .mixedOrders = true) {prog : Nat → Option Fun} (hp : ProgOK P prog) {n : Nat} {f : FuncId} {cd : Cd} (hf : prog f = some (.code cd)) {args : List AV} {nx' : S} {H' : Hp} {b : Bool}
    (h : callN prog (n + 1) (.fn f) args .o .E = .mk (.bool b) nx' H') {vargs : Array Value} (hv : VRels (fun _ => none) args vargs.toList) (w : World) :
    Calls P f vargs w (fun e w' => e = .returned (.bool b) ∧ Below w.heap.size w w') := by
  have hc := calls_of hm hp hf h (ι := fun _ => none) (w := w) (vargs := vargs) hv ⟨fun b ob hb => by simp [Tr.get_E] at hb, fun b ob b' ob' hb => by simp [Tr.get_E] at hb⟩ (fun b _ => Tr.get_E b) (fun _ _ _ => rfl)
  intro cs
  obtain ⟨e, w', fr, ⟨ι', u, rfl, hu, _, hst⟩, g1, g2, g3⟩ := hc cs
  simp only [VRel] at hu
  subst hu
  exact ⟨_, w', fr, ⟨rfl, hst.os, hst.tape, hst.output, hst.size, fun r hr => hst.keep r hr (fun b ob p q hb => by simp [Tr.get_E] at hb)⟩, g1, g2, g3⟩
/-- a call without arguments that gives a bool and leaves all memory alone -/
def closedG (b : Bool) : List AV → S → Hp → RV
  | [], nx, H => .mk (.bool b) nx H
  | _ :: _, _, _ => .bad
theorem closedG_some {b : Bool} {args : List AV} {nx nx' : S} {H H' : Hp} {v : AV} (h : closedG b args nx H = .mk v nx' H') : args = [] ∧ v = .bool b ∧ nx' = nx ∧ H' = H := by
  cases args with
  | nil => simp only [closedG, RV.mk.injEq] at h; obtain ⟨rfl, rfl, rfl⟩ := h; exact ⟨rfl, rfl, rfl, rfl⟩
  | cons x xs => simp [closedG] at h
theorem closedG_ext (b : Bool) : GExt (closedG b) := fun args nx H v nx' H' h => by
  obtain ⟨_, _, rfl, rfl⟩ := closedG_some h
  exact ⟨Nat.le_refl _, fun _ _ h => h⟩
theorem closedG_ok {f : Nat} {b : Bool} (hc : ∀ w, Calls P f #[] w (fun e w' => e = .returned (.bool b) ∧ Below w.heap.size w w')) : GOK P f (closedG b) := by
  intro args nx H v nx' H' h ι w vargs hv hH hwf hfr c cs
  obtain ⟨rfl, rfl, rfl, rfl⟩ := closedG_some h
  have hva : vargs = #[] := by
    simp only [VRels] at hv
    apply Array.ext'; rw [hv]
  subst hva
  obtain ⟨u, w', g1, rfl, hb⟩ := calls_ret (Q := fun u w' => u = .bool b ∧ Below w.heap.size w w') (Calls.mono (hc w) fun e w' ⟨h1, h2⟩ => ⟨_, h1, rfl, h2⟩) c cs
  refine ⟨ι, w', _, g1, rfl, ⟨fun x ob hx r p q hi => ?_, hH.inj⟩, hb.tape, hb.os, hb.output, hb.size, Io.le_refl _, fun _ _ => rfl, fun r hr _ => hb.block r hr, fun x ob r p q h1 h2 _ => ⟨x, ob, p, q, h1, h2⟩, fun _ _ _ => rfl, Nat.le_refl _⟩
  rw [hb.block r (hH.lt hx hi)]
  exact hH.obj x ob hx r p q hi
/-- a program of which one function's calls are known -/
def setF (prog : Nat → Option Fun) (f : Nat) (g : List AV → S → Hp → RV) (k : Nat) : Option Fun :=
  bif k.beq f then (match prog k with
    | some (.code cd) => some (.pre g cd)
    | some (.pre g' cd) => some (.pre g' cd)
    | none => none) else prog k
theorem setF_ok {prog : Nat → Option Fun} (hp : ProgOK P prog) {f : Nat} {g : List AV → S → Hp → RV} (he : GExt g) (hg : GOK P f g) : ProgOK P (setF prog f g) := by
  refine ⟨fun k cd h => ?_, fun k g' cd h => ?_⟩
  · unfold setF at h
    cases hb : k.beq f with
    | true =>
      rw [hb] at h; simp only [cond_true] at h
      split at h <;> simp at h
    | false => rw [hb] at h; exact hp.code k cd h
  · unfold setF at h
    cases hb : k.beq f with
    | true =>
      have := Nat.eq_of_beq_eq_true hb
      subst this
      rw [hb] at h; simp only [cond_true] at h
      split at h
      · rename_i cd' hq
        simp at h; obtain ⟨rfl, rfl⟩ := h
        exact ⟨hp.code k _ hq, he, hg⟩
      · rename_i g2 cd' hq
        simp at h; obtain ⟨rfl, rfl⟩ := h
        exact hp.pre k _ _ hq
      · simp at h
    | false => rw [hb] at h; exact hp.pre k g' cd h
/-- the evaluator answers true -/
def chkT (prog : Nat → Option Fun) (k f : Nat) (args : List AV) : Bool :=
  match callN prog k (.fn f) args .o .E with
  | .mk (.bool b) _ _ => b
  | _ => false
theorem chkT_some {prog : Nat → Option Fun} {k f : Nat} {args : List AV} (h : chkT prog k f args = true) : ∃ nx' H', callN prog k (.fn f) args .o .E = .mk (.bool true) nx' H' := by
  unfold chkT at h
  split at h
  · rename_i b nx' H' hc; subst h; exact ⟨nx', H', hc⟩
  · simp at h
theorem calls_true (hm : P.follows .mixedOrders = true) {prog : Nat → Option Fun} (hp : ProgOK P prog) {n : Nat} {f : FuncId} {cd : Cd} (hf : prog f = some (.code cd)) {args : List AV} (h : chkT prog (n + 1) f args = true)
    {vargs : Array Value} (hv : VRels (fun _ => none) args vargs.toList) (w : World) : Calls P f vargs w (fun e w' => e = .returned (.bool true) ∧ Below w.heap.size w w') := by
  obtain ⟨nx', H', h⟩ := chkT_some h
  exact calls_plain hm hp hf h hv w
end
end Go.Ab
