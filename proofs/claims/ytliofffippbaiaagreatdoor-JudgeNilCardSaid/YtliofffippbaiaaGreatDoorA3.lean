/- The operations that need no memory, all of them. -/
import Derived.Test.YtliofffippbaiaaGreatDoorA2
import Derived.Laws.BitsLemmas
namespace Go.Ab
open Go
section
variable {P : Program} {ι : Io} {e : Env} {a : Act}

theorem cOpdO_rel (he : EnvRel ι e a.tmps) {x : Option Operand} {y : Option Opd} (h : cOpdO x = some y) :
    (x = none ∧ Opd.evo e y = none) ∨ (∃ o v, x = some o ∧ Opd.evo e y = some v ∧ VRel ι v (a.eval o)) := by
  unfold cOpdO at h
  split at h
  · simp at h; subst h; exact .inl ⟨rfl, rfl⟩
  · rename_i o
    split at h
    · rename_i b hb; simp at h; subst h; exact .inr ⟨o, b.ev e, rfl, rfl, cOpd_rel he hb⟩
    · simp at h
/-- a bound of a slice expression and what it stands for -/
def BRel (ι : Io) (x : Option AV) (v : Option Value) : Prop := (v = none ∧ x = none) ∨ (∃ y u, v = some u ∧ x = some y ∧ VRel ι y u)
theorem cOpdO_B (he : EnvRel ι e a.tmps) {x : Option Operand} {y : Option Opd} (h : cOpdO x = some y) : BRel ι (Opd.evo e y) (x.map a.eval) := by
  rcases cOpdO_rel he h with ⟨rfl, h'⟩ | ⟨o, v, rfl, h', hv⟩
  · exact .inl ⟨rfl, h'⟩
  · exact .inr ⟨v, a.eval o, rfl, h', hv⟩
theorem numA_run {x : Option AV} {v : Option Value} (h : BRel ι x v) {d n : Nat} (hn : numA x d = some n) :
    (v = none ∧ n = d) ∨ ∃ u, v = some u ∧ ∀ y code w, n ≤ y → (Instr.sliceBound u y code).run P w = .ok n w := by
  rcases h with ⟨rfl, rfl⟩ | ⟨y, u, rfl, rfl, hv⟩
  · simp [numA] at hn; exact .inl ⟨rfl, hn.symm⟩
  · unfold numA at hn
    split at hn
    · rename_i hx; simp at hx
    · rename_i k i hx
      simp only [Option.some.injEq] at hx; subst hx
      simp only [VRel] at hv; subst hv
      split at hn
      · rename_i hi
        simp at hn; subst hn
        refine .inr ⟨_, rfl, fun y code w hy => ?_⟩
        have : 0 ≤ i ∧ i ≤ (y : Int) := ⟨hi, by omega⟩
        simp [Instr.sliceBound, asIntOf, this]
      · simp at hn
    · simp at hn
theorem bounds_run {n cap : Nat} {c : Cap} {lo hi mx : Option AV} {lo' hi' mx' : Option Value} {l h : Nat} {m : Option Nat} (hb : boundsA n c lo hi mx = some (l, h, m))
    (hl : BRel ι lo lo') (hh : BRel ι hi hi') (hm : BRel ι mx mx') (hc : CapRel c n cap) (isSl : Bool) (w : World) :
    ∃ M, (Instr.sliceBounds isSl n cap lo' hi' mx').run P w = .ok (l, h, M) w ∧ l ≤ h ∧ h ≤ M ∧ M ≤ cap ∧ CapRel (capAt c l m) (h - l) (M - l) := by
  unfold boundsA at hb
  split at hb
  case h_2 => simp at hb
  rename_i h0 l0 eh el
  split at hb
  case isFalse => simp at hb
  rename_i hlh
  have htop : capLo c ≤ cap ∧ n ≤ capLo c := by
    cases c <;> simp only [CapRel, capLo] at hc ⊢ <;> omega
  have nh := numA_run (P := P) hh eh
  have nl := numA_run (P := P) hl el
  split at hb
  · rename_i emx
    rcases hm with ⟨rfl, _⟩ | ⟨_, _, _, h', _⟩
    case inr => simp at h'
    split at hb
    case isFalse => simp at hb
    rename_i htop2
    simp only [Option.some.injEq, Prod.mk.injEq] at hb
    obtain ⟨rfl, rfl, rfl⟩ := hb
    refine ⟨cap, ?_, hlh, by omega, Nat.le_refl _, ?_⟩
    · rcases nh with ⟨rfl, rfl⟩ | ⟨u, rfl, hu⟩ <;> rcases nl with ⟨rfl, rfl⟩ | ⟨u', rfl, hu'⟩
      · simp [Instr.sliceBounds]
      · simp [Instr.sliceBounds, hu' _ _ w hlh]
      · simp [Instr.sliceBounds, hu _ _ w (show h0 ≤ cap by omega)]
      · simp [Instr.sliceBounds, hu _ _ w (show h0 ≤ cap by omega), hu' _ _ w hlh]
    · cases c <;> simp only [CapRel, capAt, capLo, capIs] at hc htop2 ⊢
      · obtain ⟨rfl, _⟩ := hc; omega
      · omega
  · rename_i mv
    split at hb
    case h_2 => simp at hb
    rename_i m0 em
    split at hb
    case isFalse => simp at hb
    rename_i hc2
    have hc3 := hc2.1
    have hc4 := hc2.2.1
    simp only [Option.some.injEq, Prod.mk.injEq] at hb
    obtain ⟨rfl, rfl, rfl⟩ := hb
    rcases hm with ⟨_, h'⟩ | ⟨y, u, rfl, h', hv⟩
    case inl => simp at h'
    simp only [Option.some.injEq] at h'; subst h'
    have nm := numA_run (P := P) (.inr ⟨_, u, rfl, rfl, hv⟩) em
    rcases nm with ⟨h', _⟩ | ⟨u', eu, hu⟩
    case inl => simp at h'
    simp only [Option.some.injEq] at eu; subst eu
    refine ⟨m0, ?_, hlh, hc2.1, by omega, ?_⟩
    · have hm0 := hu cap (if isSl then .slice3Acap else .slice3Alen) w (show m0 ≤ cap by omega)
      rcases nh with ⟨rfl, rfl⟩ | ⟨u2, rfl, hu2⟩
      · rcases hh with ⟨_, rfl⟩ | ⟨_, _, h', _⟩
        · simp at hc2
        · simp at h'
      · rcases nl with ⟨rfl, rfl⟩ | ⟨u', rfl, hu'⟩
        · simp [Instr.sliceBounds, hm0, hu2 _ _ w hc2.1]
        · simp [Instr.sliceBounds, hm0, hu2 _ _ w hc2.1, hu' _ _ w hlh]
    · exact ⟨rfl, by omega⟩
theorem add_off (r p n : Nat) : (⟨r, p, none⟩ : Addr).add n = ⟨r, p + n, none⟩ := by
  unfold Addr.add; split
  · rename_i h; subst h; rfl
  · rfl
theorem slice_run {el t : TypeId} {size : Nat} (hu : P.underlying t = some (.slice el)) (hs : sizeT P el = some size) {z : Nat} (hz : z = size) {b : S} {o n : Nat} {c : Cap} {v : Value} (hv : VRel ι (.slice z b o n c) v)
    {lo hi mx : Option AV} {lo' hi' mx' : Option Value} {l h : Nat} {m : Option Nat} (hb : boundsA n c lo hi mx = some (l, h, m))
    (hl : BRel ι lo lo') (hh : BRel ι hi hi') (hm : BRel ι mx mx') (w : World) :
    ∃ u, (Instr.sliceAt t v lo' hi' mx').run P w = .ok u w ∧ VRel ι (.slice z b (o + l * size) (h - l) (capAt c l m)) u := by
  obtain ⟨r, p, q, ad, cap, hi1, rfl, hc, ha⟩ := hv
  obtain ⟨M, hrun, h1, h2, h3, h4⟩ := bounds_run (P := P) hb hl hh hm hc true w
  refine ⟨.slice (if M = l then some ad else (some ad).map (·.add (l * size))) (h - l) (M - l), ?_, ?_⟩
  · simp only [Instr.sliceAt, Instr.slice, Sem.run_bind, run_und hu, Result.andThen_ok, hrun, run_size hs, Sem.run_pure]
  · subst hz
    by_cases hM : M = l
    · exact ⟨r, p, q, ad, M - l, hi1, by simp [hM], h4, .inl (by omega)⟩
    · refine ⟨r, p, q, ad.add (l * z), M - l, hi1, by simp [hM], h4, .inr ?_⟩
      rcases ha with h0 | ⟨rfl, hq⟩
      · omega
      · refine ⟨by rw [add_off, Nat.add_assoc], ?_⟩
        have e1 : (M - l) * z + l * z = M * z := by rw [← Nat.add_mul]; congr 1; omega
        have e2 : M * z ≤ cap * z := Nat.mul_le_mul_right _ h3
        omega
theorem nilslice_run {el t : TypeId} {size : Nat} (hu : P.underlying t = some (.slice el)) (hs : sizeT P el = some size)
    {lo hi mx : Option AV} {lo' hi' mx' : Option Value} {x : Nat × Nat × Option Nat} (hb : boundsA 0 (.exact 0) lo hi mx = some x)
    (hl : BRel ι lo lo') (hh : BRel ι hi hi') (hm : BRel ι mx mx') (w : World) :
    (Instr.sliceAt t (.slice none 0 0) lo' hi' mx').run P w = .ok (.slice none 0 0) w := by
  obtain ⟨l, h, m⟩ := x
  obtain ⟨M, hrun, h1, h2, h3, h4⟩ := bounds_run (P := P) hb hl hh hm (show CapRel (.exact 0) 0 0 from ⟨rfl, Nat.le_refl _⟩) true w
  simp only [Instr.sliceAt, Instr.slice, Sem.run_bind, run_und hu, Result.andThen_ok, hrun, run_size hs, Sem.run_pure]
  have : M = 0 := by omega
  have : h = 0 := by omega
  have : l = 0 := by omega
  subst_vars
  simp
theorem sliceS_run {t : TypeId} (hu : P.underlying t = some .string) {s : ByteArray}
    {lo hi : Option AV} {lo' hi' : Option Value} {l h : Nat} {m : Option Nat} (hb : boundsA s.size (.exact s.size) lo hi none = some (l, h, m))
    (hl : BRel ι lo lo') (hh : BRel ι hi hi') (w : World) :
    (Instr.sliceAt t (.string s) lo' hi' none).run P w = .ok (.string (s.extract l h)) w := by
  obtain ⟨M, hrun, h1, h2, h3, h4⟩ := bounds_run (P := P) hb hl hh (.inl ⟨rfl, rfl⟩) (show CapRel (.exact s.size) s.size s.size from ⟨rfl, Nat.le_refl _⟩) false w
  simp only [Instr.sliceAt, Instr.slice, Sem.run_bind, run_und hu, Result.andThen_ok, Option.isSome_none, Bool.false_eq_true, if_false, Sem.run_pure, hrun]

theorem part_run {t : TypeId} {g : Bool} {n : Nat} (hg : isAggT P t = some g) (hn : sizeT P t = some n) {cs : List AV} {vs : Array Value} (h : VRels ι cs vs.toList) {off : Nat} {r : AV}
    (hr : partA g cs off n = some r) (w : World) : ∃ v, (part t vs off).run P w = .ok v w ∧ VRel ι r v := by
  unfold partA at hr
  split at hr
  · rename_i hgt; subst hgt
    simp at hr; subst hr
    refine ⟨.agg (vs.extract off (off + n)), by simp [part, run_agg hg, run_size hn], _, rfl, ?_⟩
    have := (h.drop off).take n
    rw [Array.toList_extract]
    simpa [List.extract_eq_drop_take'] using this
  · rename_i hgf
    have : g = false := by simpa using hgf
    subst this
    obtain ⟨v, hv, hr'⟩ := h.get _ _ hr
    refine ⟨v, ?_, hr'⟩
    have : vs[off]? = some v := by simpa using hv
    simp [part, run_agg hg, this]
theorem maxI_run {t : TypeId} : ∀ {xs : List AV} {vs : List Value} (_ : VRels ι xs vs) {k : IntKind} {n : Int} {r : AV} (_ : maxI xs k n = some r) (w : World),
    ∃ u, (vs.foldlM Builtin.max2 (.int k n) : Sem Value).run P w = .ok u w ∧ VRel ι r u
  | [], vs, h, k, n, r, hr, w => by
    simp [VRels] at h; subst h
    simp [maxI] at hr; subst hr
    exact ⟨_, rfl, rfl⟩
  | x :: xs, _, ⟨v, vs, rfl, hv, hvs⟩, k, n, r, hr, w => by
    cases x <;> simp [maxI] at hr
    simp only [VRel] at hv; subst hv
    obtain ⟨u, h1, h2⟩ := maxI_run (t := t) hvs hr w
    refine ⟨u, ?_, h2⟩
    rw [List.foldlM_cons, Sem.run_bind]
    simpa [Builtin.max2] using h1
theorem minI_run {t : TypeId} : ∀ {xs : List AV} {vs : List Value} (_ : VRels ι xs vs) {k : IntKind} {n : Int} {r : AV} (_ : minI xs k n = some r) (w : World),
    ∃ u, (vs.foldlM Builtin.min2 (.int k n) : Sem Value).run P w = .ok u w ∧ VRel ι r u
  | [], vs, h, k, n, r, hr, w => by
    simp [VRels] at h; subst h
    simp [minI] at hr; subst hr
    exact ⟨_, rfl, rfl⟩
  | x :: xs, _, ⟨v, vs, rfl, hv, hvs⟩, k, n, r, hr, w => by
    cases x <;> simp [minI] at hr
    simp only [VRel] at hv; subst hv
    obtain ⟨u, h1, h2⟩ := minI_run (t := t) hvs hr w
    refine ⟨u, ?_, h2⟩
    rw [List.foldlM_cons, Sem.run_bind]
    simpa [Builtin.min2] using h1

theorem run_v {s : Sem Value} {v : Value} {w w' : World} (h : s.run P w = .ok v w') : (do pure (.value (← s)) : Sem Next).run P w = .ok (.value v) w' := by
  simp [h]
end
end Go.Ab
/- Each operation that needs no memory: what the model's run gives. -/
namespace Go.Ab
open Go
section
variable {P : Program} {ι : Io} {e : Env} {a : Act}

def POk (P : Program) (ι : Io) (a : Act) (O : Oper) (r : AV) : Prop := ∀ w, ∃ v, (execOp a.eval O).run P w = .ok (.value v) w ∧ VRel ι r v
theorem POk.mk {O : Oper} {r : AV} (s : Sem Value) (hs : execOp a.eval O = (do pure (.value (← s)))) (h : ∀ w, ∃ v, s.run P w = .ok v w ∧ VRel ι r v) : POk P ι a O r := by
  intro w
  obtain ⟨v, h1, h2⟩ := h w
  exact ⟨v, by rw [hs]; exact run_v h1, h2⟩
theorem builtin_eq {O : Oper} {c : Call} {b : Builtin} (ho : O.op = .call c) (hc : c.callee = .builtin b) :
    execOp a.eval O = builtin b c.argTypes O.type (c.args.map fun | .const _ => true | _ => false) (c.args.map a.eval) := by
  unfold execOp
  rw [ho]
  simp only [resolve, hc]
  rfl
theorem toList_one {α : Type} {x : α} {a : Array α} (h : a.toList = [x]) : a = #[x] := by
  cases a; simp at h; simp [h]
theorem toList_two {α : Type} {x y : α} {a : Array α} (h : a.toList = [x, y]) : a = #[x, y] := by
  cases a; simp at h; simp [h]

/-- the builtins -/
theorem pbuiltin_run {b : Builtin} {ts : Array TypeId} {xs : Array Operand} {po : POp} (h : cBuiltin P b ts.toList xs.toList = some (.p po)) (he : EnvRel ι e a.tmps) {r : AV} (hr : po.run e = some r)
    (ty : TypeId) (cs : Array Bool) (w : World) : ∃ v, (builtin b ts ty cs (xs.map a.eval)).run P w = .ok (.value v) w ∧ VRel ι r v := by
  unfold cBuiltin at h
  split at h
  · rename_i t x ht hx
    obtain rfl := toList_one ht
    obtain rfl := toList_one hx
    split at h
    · rename_i hu
      obtain ⟨y, hy, e1⟩ := c1_some.1 h
      simp at e1; subst e1
      have hv := cOpd_rel he hy
      simp only [POp.run] at hr
      split at hr <;> simp at hr; subst hr; rename_i hx; rw [hx] at hv
      simp only [VRel] at hv
      exact ⟨_, by simp [builtin, Builtin.len_, run_und hu, hv, goInt], rfl⟩
    · rename_i hu
      obtain ⟨y, hy, e1⟩ := c1_some.1 h
      simp at e1; subst e1
      have hv := cOpd_rel he hy
      simp only [POp.run] at hr
      split at hr <;> simp at hr <;> subst hr <;> rename_i hx <;> rw [hx] at hv
      · obtain ⟨_, _, h1⟩ := hv.slice_inv
        exact ⟨_, by simp [builtin, Builtin.len_, run_und hu, h1, goInt], rfl⟩
      · simp only [VRel] at hv
        exact ⟨_, by simp [builtin, Builtin.len_, run_und hu, hv, goInt], rfl⟩
    · rename_i hu
      simp at h; subst h
      simp only [POp.run, Option.some.injEq] at hr; subst hr
      exact ⟨_, by simp [builtin, Builtin.len_, run_und hu, goInt], rfl⟩
    · rename_i hu
      split at h
      · rename_i hu2
        simp at h; subst h
        simp only [POp.run, Option.some.injEq] at hr; subst hr
        exact ⟨_, by simp [builtin, Builtin.len_, run_und hu, run_und hu2, goInt], rfl⟩
      · simp at h
    · obtain ⟨y, hy, e1⟩ := c1_some.1 h
      simp at e1
    · simp at h
  · rename_i t x ht hx
    obtain rfl := toList_one ht
    obtain rfl := toList_one hx
    split at h
    · rename_i hu
      obtain ⟨y, hy, e1⟩ := c1_some.1 h
      simp at e1; subst e1
      have hv := cOpd_rel he hy
      simp only [POp.run] at hr
      split at hr <;> simp at hr <;> subst hr <;> rename_i hx <;> rw [hx] at hv
      · obtain ⟨_, _, _, _, _, _, h1, ⟨rfl, _⟩, _⟩ := hv
        exact ⟨_, by simp [builtin, Builtin.cap_, run_und hu, h1, goInt], rfl⟩
      · simp only [VRel] at hv
        exact ⟨_, by simp [builtin, Builtin.cap_, run_und hu, hv, goInt], rfl⟩
    · simp at h
  · split at h
    · split at h
      · split at h
        · obtain ⟨_, _, _, _, e1⟩ := c2_some.1 h; simp at e1
        · simp at h
      · simp at h
    · split at h
      · split at h
        · obtain ⟨_, _, _, _, e1⟩ := c2_some.1 h; simp at e1
        · simp at h
      · simp at h
    · simp at h
  · split at h
    · split at h
      · split at h
        · obtain ⟨_, _, _, _, e1⟩ := c2_some.1 h; simp at e1
        · simp at h
      · simp at h
    · simp at h
  · rename_i x rest hx
    split at h
    · rename_i y ys hy hys
      simp at h; subst h
      have hv := cOpd_rel he hy
      have hvs := cOpds_rel he hys
      simp only [POp.run] at hr
      split at hr
      case h_2 => simp at hr
      rename_i hx2; rw [hx2] at hv; have hv := hv.int_inv
      obtain ⟨u, h1, h2⟩ := maxI_run (t := 0) hvs hr w
      refine ⟨u, ?_, h2⟩
      have e1 : (xs.map a.eval).toList = a.eval x :: rest.map a.eval := by rw [Array.toList_map, hx]; rfl
      simp only [builtin, Builtin.max_, e1, hv]
      exact run_v h1
    · simp at h
  · rename_i x rest hx
    split at h
    · rename_i y ys hy hys
      simp at h; subst h
      have hv := cOpd_rel he hy
      have hvs := cOpds_rel he hys
      simp only [POp.run] at hr
      split at hr
      case h_2 => simp at hr
      rename_i hx2; rw [hx2] at hv; have hv := hv.int_inv
      obtain ⟨u, h1, h2⟩ := minI_run (t := 0) hvs hr w
      refine ⟨u, ?_, h2⟩
      have e1 : (xs.map a.eval).toList = a.eval x :: rest.map a.eval := by rw [Array.toList_map, hx]; rfl
      simp only [builtin, Builtin.min_, e1, hv]
      exact run_v h1
    · simp at h
  · split at h
    · split at h
      · obtain ⟨_, _, _, _, e1⟩ := c2_some.1 h; simp at e1
      · simp at h
    · simp at h
  · split at h
    · split at h
      · split at h
        · obtain ⟨_, _, e1⟩ := c1_some.1 h; simp at e1
        · simp at h
      · simp at h
    · simp at h
  · simp at h

/-- a plain operation of two operands -/
theorem pbin_run {op : BinOp} {t : TypeId} {x y : Operand} {p q : Opd} (he : EnvRel ι e a.tmps) (hp : cOpd x = some p) (hq : cOpd y = some q) {r : AV} (hr : binA op (p.ev e) (q.ev e) = some r) (w : World) :
    ∃ v, (do eqGuard op t x y (a.eval x) (a.eval y); binOp op t (a.eval x) (a.eval y) : Sem Value).run P w = .ok v w ∧ VRel ι r v := by
  have hx := cOpd_rel he hp
  have hy := cOpd_rel he hq
  obtain ⟨u, h1, h2⟩ := binA_run (P := P) hr hx hy t w
  refine ⟨u, ?_, h2⟩
  have hg : (eqGuard op t x y (a.eval x) (a.eval y)).run P w = .ok () w := by
    unfold binA at hr
    split at hr
    · rename_i k n k' n' e1 e2; rw [e1] at hx; rw [VRel.int_inv hx]; exact eqGuard_run (by simp) (by simp) w
    · rename_i s s' e1 e2; rw [e1] at hx; simp only [VRel] at hx; rw [hx]; exact eqGuard_run (by simp) (by simp) w
    · simp at hr
  simp [hg, h1]

/-- EACH OPERATION THAT NEEDS NO MEMORY gives, in every world, a value that stands for the one told, and leaves the world as it is. -/
theorem pop_run {O : Oper} {po : POp} (h : cOp P O.op = some (.p po)) (he : EnvRel ι e a.tmps) {r : AV} (hr : po.run e = some r) : POk P ι a O r := by
  obtain ⟨dst, op, ty, pos, after, guard⟩ := O
  simp only at h
  unfold cOp at h
  split at h
  · obtain ⟨y, hy, e1⟩ := c1_some.1 h
    simp at e1; subst e1
    simp only [POp.run, Option.some.injEq] at hr; subst hr
    exact fun w => ⟨_, rfl, cOpd_rel he hy⟩
  · obtain ⟨y, hy, e1⟩ := c1_some.1 h
    simp at e1; subst e1
    simp only [POp.run, Option.some.injEq] at hr; subst hr
    exact fun w => ⟨_, rfl, cOpd_rel he hy⟩
  · -- pick
    obtain ⟨c, x, y, hc, hx, hy, e1⟩ := c3_some.1 h
    simp at e1; subst e1
    have vc := cOpd_rel he hc
    simp only [POp.run] at hr
    split at hr <;> simp at hr <;> subst hr <;> rename_i e2 <;> rw [e2] at vc <;> simp only [VRel] at vc
    · exact fun w => ⟨_, by simp [execOp, vc, asBool], cOpd_rel he hx⟩
    · exact fun w => ⟨_, by simp [execOp, vc, asBool], cOpd_rel he hy⟩
  · split at h <;> simp at h
  · obtain ⟨y, hy, e1⟩ := c1_some.1 h
    simp at e1
  · -- build
    split at h
    · rename_i fs z hu hz
      split at h
      · rename_i ps hps
        split at h
        · rename_i hs
          simp at h; subst h
          simp only [POp.run] at hr
          split at hr <;> simp at hr; subst hr
          rename_i cs hcs
          exact POk.mk _ rfl fun w => build_struct hu hz hps hs he hcs w
        · simp at h
      · simp at h
    · rename_i n el z hu hz
      split at h
      · rename_i s hs
        split at h
        · rename_i ps hps
          simp at h; subst h
          simp only [POp.run] at hr
          split at hr <;> simp at hr; subst hr
          rename_i cs hcs
          exact POk.mk _ rfl fun w => build_array hu hz hs hps he hcs w
        · simp at h
      · simp at h
    · simp at h
  · split at h
    · split at h
      · split at h
        · split at h <;> simp at h
        · simp at h
      · simp at h
    · simp at h
  · split at h
    · split at h
      · obtain ⟨_, _, _, _, _, _, e1⟩ := c3_some.1 h; simp at e1
      · simp at h
    · simp at h
  · split at h
    · split at h
      · obtain ⟨_, _, _, _, _, _, e1⟩ := c3_some.1 h; simp at e1
      · simp at h
    · simp at h
  · split at h
    · obtain ⟨_, _, e1⟩ := c1_some.1 h; simp at e1
    · obtain ⟨_, _, e1⟩ := c1_some.1 h; simp at e1
    · simp at h
  · split at h
    · obtain ⟨_, _, _, _, e1⟩ := c2_some.1 h; simp at e1
    · simp at h
  · -- nilCheck
    obtain ⟨y, hy, e1⟩ := c1_some.1 h
    simp at e1; subst e1
    have hv := cOpd_rel he hy
    have hv' := hv
    simp only [POp.run] at hr
    split at hr <;> simp at hr <;> subst hr <;> rename_i e2 <;> rw [e2] at hv hv'
    · obtain ⟨_, _, _, _, e3⟩ := hv; exact fun w => ⟨_, by simp [execOp, e3]; rfl, by rw [← e3]; exact hv'⟩
    · obtain ⟨_, _, e3, _⟩ := hv; exact fun w => ⟨_, by simp [execOp, e3]; rfl, by rw [← e3]; exact hv'⟩
    · obtain ⟨_, _, _, e3⟩ := hv; exact fun w => ⟨_, by simp [execOp, e3]; rfl, by rw [← e3]; exact hv'⟩
  · -- ==
    split at h
    · rename_i k hk
      obtain ⟨p, q, hp, hq, e1⟩ := c2_some.1 h
      simp at e1; subst e1
      simp only [POp.run] at hr
      split at hr <;> simp at hr; subst hr
      rename_i b hb
      exact POk.mk _ rfl fun w => ⟨_, eql_run (ng := false) hk hb (cOpd_rel he hp) (cOpd_rel he hq) _ _ w, rfl⟩
    · obtain ⟨p, q, hp, hq, e1⟩ := c2_some.1 h
      simp at e1; subst e1
      exact POk.mk _ rfl fun w => pbin_run he hp hq (by simpa only [POp.run] using hr) w
    · simp at h
  · split at h
    · rename_i k hk
      obtain ⟨p, q, hp, hq, e1⟩ := c2_some.1 h
      simp at e1; subst e1
      simp only [POp.run] at hr
      split at hr <;> simp at hr; subst hr
      rename_i b hb
      exact POk.mk _ rfl fun w => ⟨_, eql_run (ng := true) hk hb (cOpd_rel he hp) (cOpd_rel he hq) _ _ w, rfl⟩
    · obtain ⟨p, q, hp, hq, e1⟩ := c2_some.1 h
      simp at e1; subst e1
      exact POk.mk _ rfl fun w => pbin_run he hp hq (by simpa only [POp.run] using hr) w
    · simp at h
  · obtain ⟨p, q, hp, hq, e1⟩ := c2_some.1 h
    simp at e1; subst e1
    exact POk.mk _ rfl fun w => pbin_run he hp hq (by simpa only [POp.run] using hr) w
  · -- neg
    obtain ⟨y, hy, e1⟩ := c1_some.1 h
    simp at e1; subst e1
    have hv := cOpd_rel he hy
    simp only [POp.run] at hr
    split at hr
    case h_2 => simp at hr
    rename_i k n e2; rw [e2] at hv; have hv := hv.int_inv
    simp only [Option.some.injEq] at hr; subst hr
    exact POk.mk _ rfl fun w => ⟨.int k (k.wrap (0 - n)), by rw [hv]; rfl, rfl⟩
  · obtain ⟨y, hy, e1⟩ := c1_some.1 h
    simp at e1; subst e1
    have hv := cOpd_rel he hy
    simp only [POp.run] at hr
    split at hr <;> simp at hr; subst hr
    rename_i e2; rw [e2] at hv; simp only [VRel] at hv
    exact POk.mk _ rfl fun w => ⟨_, by rw [hv]; rfl, rfl⟩
  · -- convert
    split at h
    · rename_i k0 k hs hd
      obtain ⟨y, hy, e1⟩ := c1_some.1 h
      simp at e1; subst e1
      have hv := cOpd_rel he hy
      simp only [POp.run] at hr
      split at hr <;> simp at hr; subst hr
      rename_i e2; rw [e2] at hv; have hv := hv.int_inv
      exact POk.mk _ rfl fun w => ⟨_, by simp [hv, convert, run_und hs, run_und hd, Conv.intToInt], rfl⟩
    · split at h
      · obtain ⟨_, _, e1⟩ := c1_some.1 h; simp at e1
      · simp at h
    · split at h
      · obtain ⟨_, _, e1⟩ := c1_some.1 h; simp at e1
      · simp at h
    · simp at h
  · -- makeInterface
    split at h
    · simp at h
    · rename_i d hd hu
      obtain ⟨y, hy, e1⟩ := c1_some.1 h
      simp at e1; subst e1
      have hv := cOpd_rel he hy
      simp only [POp.run, Option.some.injEq] at hr; subst hr
      refine POk.mk _ rfl fun w => ⟨_, ?_, _, rfl, hv⟩
      simp only [Instr.makeInterface, Sem.run_bind, run_und hu, Result.andThen_ok]
      rfl
    · simp at h
  · -- makeFunc
    split at h
    · rename_i x y hx hy
      simp at h; subst h
      simp only [POp.run, Option.some.injEq] at hr; subst hr
      refine fun w => ⟨_, rfl, _, _, rfl, ?_, ?_⟩
      · rw [Array.toList_map]; exact cOpds_rel he hx
      · rw [Array.toList_map]; exact cOpds_rel he hy
    · simp at h
  · simp at h
  · split at h
    · split at h
      · split at h
        · obtain ⟨_, _, _, _, e1⟩ := c2_some.1 h; simp at e1
        · simp at h
      · simp at h
    · simp at h
  · -- slice
    split at h
    · rename_i x lo hi mx hx hlo hhi hmx
      have hv := cOpd_rel he hx
      have vlo := cOpdO_B he hlo
      have vhi := cOpdO_B he hhi
      have vmx := cOpdO_B he hmx
      split at h
      · split at h <;> simp at h
      · rename_i el hu
        split at h
        · rename_i s hs
          simp at h; subst h
          simp only [POp.run] at hr
          split at hr
          · rename_i z b o n c e2; rw [e2] at hv
            split at hr
            · rename_i hz
              split at hr
              · rename_i l hh m hb
                simp at hr; subst hr
                exact POk.mk _ rfl fun w => slice_run hu hs hz hv hb vlo vhi vmx w
              · simp at hr
            · simp at hr
          · rename_i e2; rw [e2] at hv; simp only [VRel] at hv
            split at hr
            · rename_i hb
              simp at hr; subst hr
              exact POk.mk _ rfl fun w => ⟨_, by rw [hv]; exact nilslice_run hu hs hb vlo vhi vmx w, rfl⟩
            · simp at hr
          · simp at hr
        · simp at h
      · rename_i hu
        split at h
        · simp at h; subst h
          simp only [POp.run] at hr
          split at hr
          · rename_i s e2; rw [e2] at hv; simp only [VRel] at hv
            split at hr
            · rename_i l hh m hb
              simp at hr; subst hr
              rcases vmx with ⟨e3, _⟩ | ⟨_, _, _, e3, _⟩
              · exact POk.mk _ rfl fun w => ⟨_, by simp only [hv, e3]; exact sliceS_run hu hb vlo vhi w, rfl⟩
              · simp [Opd.evo] at e3
            · simp at hr
          · simp at hr
        · simp at h
      · simp at h
    · simp at h
  · -- fieldAddr
    split at h
    · rename_i fs hu
      split at h
      · rename_i fd hf
        split at h
        · rename_i n hn
          split at h
          · simp at h
          · rename_i hn0
            obtain ⟨y, hy, e1⟩ := c1_some.1 h
            simp at e1; subst e1
            have hv := cOpd_rel he hy
            simp only [POp.run] at hr
            split at hr <;> simp at hr; subst hr
            rename_i b o e2; rw [e2] at hv
            obtain ⟨r, p, q, hi, e3⟩ := hv
            refine POk.mk _ rfl fun w => ⟨.pointer (some ⟨r, p + (o + fd.offset), none⟩), ?_, r, p, q, hi, rfl⟩
            simp only [Instr.fieldAt, Sem.run_bind, run_und hu, Result.andThen_ok, hf, e3, Instr.sureAddr, Sem.run_pure, fieldPlace, run_size hn, if_neg hn0, add_off, Nat.add_assoc]
        · simp at h
      · simp at h
    · simp at h
  · -- field
    split at h
    · rename_i fs hu
      split at h
      · rename_i fd hf
        split at h
        · rename_i n g hn hg
          obtain ⟨y, hy, e1⟩ := c1_some.1 h
          simp at e1; subst e1
          have hv := cOpd_rel he hy
          simp only [POp.run] at hr
          split at hr
          · rename_i cs e2; rw [e2] at hv
            obtain ⟨vs, e3, hvs⟩ := hv.agg_inv
            refine POk.mk _ rfl fun w => ?_
            obtain ⟨u, h1, h2⟩ := part_run hg hn hvs hr w
            exact ⟨u, by simp [Instr.field, run_und hu, hf, e3, asAgg, h1], h2⟩
          · simp at hr
        · simp at h
      · simp at h
    · simp at h
  · -- indexAddr
    split at h
    · rename_i el hu
      split at h
      · rename_i n hn
        obtain ⟨p, q, hp, hq, e1⟩ := c2_some.1 h
        simp at e1; subst e1
        have hx := cOpd_rel he hp
        have hy := cOpd_rel he hq
        simp only [POp.run] at hr
        split at hr
        · rename_i z b o m c k i e2 e3; rw [e2] at hx; rw [e3] at hy; have hy := hy.int_inv
          split at hr
          · rename_i hc
            obtain ⟨h0, h1, rfl⟩ := hc
            simp at hr; subst hr
            obtain ⟨r, p', q', ad, cap, hi, e4, hcap, had⟩ := hx
            have hcap0 : cap ≠ 0 := by
              cases c <;> simp only [CapRel] at hcap <;> omega
            obtain ⟨rfl, _⟩ := had.resolve_left hcap0
            refine POk.mk _ rfl fun w => ⟨.pointer (some ⟨r, p' + (o + i.toNat * z), none⟩), ?_, r, p', q', hi, rfl⟩
            simp only [Instr.indexAt, hy, asIntOf, Sem.run_bind, Sem.run_pure, Result.andThen_ok, run_und hu, e4, h0, h1, and_self, if_true, run_size hn, add_off, Nat.add_assoc]
          · simp at hr
        · simp at hr
      · simp at h
    · rename_i m el hu
      split at h
      · rename_i n hn
        obtain ⟨p, q, hp, hq, e1⟩ := c2_some.1 h
        simp at e1; subst e1
        have hx := cOpd_rel he hp
        have hy := cOpd_rel he hq
        simp only [POp.run] at hr
        split at hr
        · rename_i b o k i e2 e3; rw [e2] at hx; rw [e3] at hy; have hy := hy.int_inv
          split at hr
          · rename_i hc
            simp at hr; subst hr
            obtain ⟨r, p', q', hi, e4⟩ := hx
            refine POk.mk _ rfl fun w => ⟨.pointer (some ⟨r, p' + (o + i.toNat * n), none⟩), ?_, r, p', q', hi, rfl⟩
            simp only [Instr.indexAt, hy, asIntOf, Sem.run_bind, Sem.run_pure, Result.andThen_ok, run_und hu, e4, Instr.sureAddr, hc, and_self, if_true, run_size hn, add_off, Nat.add_assoc]
          · simp at hr
        · simp at hr
      · simp at h
    · simp at h
  · -- index
    split at h
    · rename_i m el hu
      split at h
      · rename_i n g hn hg
        obtain ⟨p, q, hp, hq, e1⟩ := c2_some.1 h
        simp at e1; subst e1
        have hx := cOpd_rel he hp
        have hy := cOpd_rel he hq
        simp only [POp.run] at hr
        split at hr
        · rename_i cs k i e2 e3; rw [e2] at hx; rw [e3] at hy; have hy := hy.int_inv
          split at hr
          · rename_i hc
            obtain ⟨vs, e4, hvs⟩ := hx.agg_inv
            refine POk.mk _ rfl fun w => ?_
            obtain ⟨u, h1, h2⟩ := part_run hg hn hvs hr w
            refine ⟨u, ?_, h2⟩
            simp only [Instr.index, hy, asIntOf, Sem.run_bind, Sem.run_pure, Result.andThen_ok, run_und hu, e4, hc, and_self, if_true, run_size hn, h1]
          · simp at hr
        · simp at hr
      · simp at h
    · rename_i hu
      obtain ⟨p, q, hp, hq, e1⟩ := c2_some.1 h
      simp at e1; subst e1
      have hx := cOpd_rel he hp
      have hy := cOpd_rel he hq
      simp only [POp.run] at hr
      split at hr
      · rename_i s k i e2 e3; rw [e2] at hx; rw [e3] at hy; have hy := hy.int_inv; simp only [VRel] at hx
        split at hr
        · rename_i hc
          split at hr
          · rename_i b hb
            simp at hr; subst hr
            refine POk.mk _ rfl fun w => ⟨_, ?_, rfl⟩
            simp only [Instr.index, hy, hx, asIntOf, Sem.run_bind, Sem.run_pure, Result.andThen_ok, run_und hu, if_pos hc, hb]
          · simp at hr
        · simp at hr
      · simp at hr
    · simp at h
  · split at h
    · split at h
      · obtain ⟨_, _, _, _, e1⟩ := c2_some.1 h; simp at e1
      · simp at h
    · simp at h
  · split at h
    · split at h
      · obtain ⟨_, _, _, _, e1⟩ := c2_some.1 h; simp at e1
      · simp at h
    · simp at h
  · obtain ⟨_, _, _, _, _, _, e1⟩ := c3_some.1 h; simp at e1
  · -- extract
    obtain ⟨y, hy, e1⟩ := c1_some.1 h
    simp at e1; subst e1
    have hv := cOpd_rel he hy
    simp only [POp.run] at hr
    split at hr
    · rename_i vs e2; rw [e2] at hv
      obtain ⟨us, e3, hus⟩ := hv
      obtain ⟨u, h1, h2⟩ := hus.get _ _ hr
      refine POk.mk _ rfl fun w => ⟨u, ?_, h2⟩
      rw [Array.getElem?_toList] at h1
      simp only [e3, Instr.extract, h1, Sem.run_pure]
    · simp at hr
  · -- call
    rename_i c
    split at h
    · split at h
      · split at h
        · simp at h
        · obtain ⟨_, _, e1⟩ := c1_some.1 h; simp at e1
      · simp at h
    · rename_i b hb
      intro w
      rw [builtin_eq (O := ⟨dst, .call c, ty, pos, after, guard⟩) rfl hb]
      exact pbuiltin_run h he hr _ _ w
    · simp at h
  · simp at h
end
end Go.Ab
/- The memory: how named blocks lie in the model's heap; operations that only read. -/
set_option linter.unusedSimpArgs false
set_option linter.unusedVariables false
namespace Go.Ab
open Go

/-- an entry of a map -/
def ERel (ι : Io) : List (AV × AV × Nat) → List MapEntry → Prop
  | [], l => l = []
  | (k, v, s) :: es, l => ∃ m ms, l = m :: ms ∧ VRel ι k m.key ∧ VRel ι v m.val ∧ m.born = s ∧ ERel ι es ms
theorem ERel.mono {ι ι' : Io} (h : ι.le ι') : ∀ {es : List (AV × AV × Nat)} {l : List MapEntry}, ERel ι es l → ERel ι' es l
  | [], _, e => e
  | _ :: _, _, ⟨m, ms, e, h1, h2, h3, h4⟩ => ⟨m, ms, e, h1.mono h, h2.mono h, h3, ERel.mono h h4⟩
theorem ERel.length {ι : Io} : ∀ {es : List (AV × AV × Nat)} {l : List MapEntry}, ERel ι es l → l.length = es.length
  | [], _, e => by simp [ERel] at e; simp [e]
  | _ :: _, _, ⟨_, _, e, _, _, _, h⟩ => by subst e; simp [h.length]

/-- a code here, and the model's from which it was made: what is left when a loop over a function is left -/
def PendRel : Option C → Option Code → Prop
  | none, p => p = none
  | some .ret, p => p = some .ret
  | some (.exit id), p => p = some (.exit id)
  | some _, _ => False
/-- a row that bears the mark of a string's bytes has bytes alone -/
def Mk (cs : List AV) (q : Nat) (fz : Nat × Nat) : Prop := fz.1 ≤ q → q < fz.2 → cs ≠ [] ∧ ∀ x ∈ cs, isU8 x = true
/-- a block and what lies at its row -/
def ORel (P : Program) (ι : Io) : Ob → Nat → Nat → Option Obj → Prop
  | .cells cs, p, q, o => ∃ c el fz, o = some (.cells c el fz) ∧ c.size = q ∧ p + cs.length ≤ q ∧ (∀ (i : Nat) (x : AV), cs[i]? = some x → ∃ y, c[p + i]? = some y ∧ VRel ι x y) ∧ (∀ i, p ≤ i → i < q → (fz.1 ≤ i && i < fz.2) = false) ∧ Mk cs q fz
  | .map es clock, _, _, o => ∃ ms, o = some (.map ms clock) ∧ ERel ι es ms.toList
  | .loop st pend env ps ag bd, _, _, o => ∃ pd fn tmps params asg body defers, o = some (.loop { state := st, pending := pd, fn, tmps, params, assign := asg, body, defers }) ∧
      PendRel pend pd ∧ EnvRel ι env tmps ∧ ps = params.toList.map S.ofNat ∧ (∀ d ∈ params.toList, d < tmps.size) ∧ cCode P tmps.size asg = some ag ∧ cCode P tmps.size body = some bd ∧ ag.noRf = true ∧ bd.noRf = true

theorem VRels.mono' {ι ι' : Io} (h : ι.le ι') {a : List AV} {v : List Value} (hv : VRels ι a v) : VRels ι' a v := hv.mono h
theorem ORel.mono {P : Program} {ι ι' : Io} (h : ι.le ι') {ob : Ob} {p q : Nat} {o : Option Obj} (ho : ORel P ι ob p q o) : ORel P ι' ob p q o := by
  cases ob with
  | cells cs =>
    obtain ⟨c, el, fz, e, h1, h2, h3, h4⟩ := ho
    exact ⟨c, el, fz, e, h1, h2, fun i x hx => let ⟨y, hy, hr⟩ := h3 i x hx; ⟨y, hy, hr.mono h⟩, h4⟩
  | map es cl => obtain ⟨ms, e, h1⟩ := ho; exact ⟨ms, e, h1.mono h⟩
  | loop st pend env ps ag bd =>
    obtain ⟨pd, fn, tmps, params, asg, body, defers, e, h1, h2, h3⟩ := ho
    exact ⟨pd, fn, tmps, params, asg, body, defers, e, h1, h2.mono h, h3⟩

/-- the named blocks that have a place lie there, each in a row of its own -/
structure HRel (P : Program) (ι : Io) (H : Hp) (w : World) : Prop where
  obj : ∀ b ob, H.get b = some ob → ∀ r p q, ι b = some (r, p, q) → ORel P ι ob p q w.heap[r]?
  inj : ∀ b ob b' ob', H.get b = some ob → H.get b' = some ob' → ∀ r p q p' q', ι b = some (r, p, q) → ι b' = some (r, p', q') → b = b'

section
variable {P : Program} {ι : Io} {e : Env} {a : Act} {H : Hp} {w : World}

theorem HRel.cells (h : HRel P ι H w) {b : S} {cs : List AV} (hb : cellsOf H b = some cs) {r p q : Nat} (hi : ι b = some (r, p, q)) :
    ∃ c el fz, w.heap[r]? = some (.cells c el fz) ∧ c.size = q ∧ p + cs.length ≤ q ∧ (∀ (i : Nat) (x : AV), cs[i]? = some x → ∃ y, c[p + i]? = some y ∧ VRel ι x y) ∧ (∀ i, p ≤ i → i < q → (fz.1 ≤ i && i < fz.2) = false) ∧ Mk cs q fz := by
  unfold cellsOf at hb
  split at hb <;> simp at hb
  rename_i c hc
  subst hb
  exact h.obj b _ hc r p q hi
theorem HRel.cell (h : HRel P ι H w) {b : S} {cs : List AV} (hb : cellsOf H b = some cs) {r p q : Nat} (hi : ι b = some (r, p, q)) {i : Nat} {x : AV} (hx : cs[i]? = some x) :
    ∃ y, w.cell? ⟨r, p + i, none⟩ = some y ∧ VRel ι x y := by
  obtain ⟨c, el, fz, h1, _, _, h2, _⟩ := h.cells hb hi
  obtain ⟨y, hy, hr⟩ := h2 i x hx
  exact ⟨y, by simp [World.cell?, h1, hy], hr⟩
theorem rowOf_some {c l : List AV} {o n : Nat} (h : rowOf c o n = some l) : o + n ≤ c.length ∧ l.length = n ∧ ∀ i, i < n → l[i]? = c[o + i]? := by
  unfold rowOf at h
  split at h <;> simp at h
  rename_i hc
  subst h
  refine ⟨hc, by simp; omega, fun i hi => ?_⟩
  rw [List.getElem?_take, if_pos hi, List.getElem?_drop]
/-- a row of cells, read at once -/
theorem HRel.row (h : HRel P ι H w) {b : S} {cs : List AV} (hb : cellsOf H b = some cs) {r p q : Nat} (hi : ι b = some (r, p, q)) {o n : Nat} {l : List AV} (hl : rowOf cs o n = some l) :
    ∃ vs : List Value, vs.length = n ∧ VRels ι l vs ∧ (loadCells ⟨r, p + o, none⟩ n).run P w = .ok vs.toArray w := by
  obtain ⟨h1, h2, h3⟩ := rowOf_some hl
  have hex : ∀ i, i < n → ∃ y, w.cell? ⟨r, p + o + i, none⟩ = some y ∧ ∀ x, l[i]? = some x → VRel ι x y := by
    intro i hi'
    have hx : l[i]? = cs[o + i]? := h3 i hi'
    have hlt : o + i < cs.length := by omega
    obtain ⟨y, hy, hr⟩ := h.cell hb hi (i := o + i) (x := cs[o + i]) (by simp [hlt])
    refine ⟨y, by rw [Nat.add_assoc]; exact hy, fun x hx' => ?_⟩
    rw [hx, List.getElem?_eq_getElem hlt] at hx'
    simp at hx'; subst hx'; exact hr
  let f : Nat → Value := fun i => (w.cell? ⟨r, p + o + i, none⟩).getD undef
  have hf : ∀ i, i < n → w.cell? ((⟨r, p + o, none⟩ : Addr).add i) = some (f i) := by
    intro i hi'
    obtain ⟨y, hy, _⟩ := hex i hi'
    rw [add_off]
    simp [f, hy]
  refine ⟨(List.range n).map f, by simp, VRels.of_get (by simp [h2]) fun i x hx => ?_, run_loadCells w _ n f hf⟩
  have hi' : i < n := by
    have := (List.getElem?_eq_some_iff.1 hx).1
    omega
  obtain ⟨y, hy, hr⟩ := hex i hi'
  refine ⟨y, ?_, hr x hx⟩
  simp [hi', f, hy]

theorem keyEq_now {ks : Bool} {k k' : AV} {kt : TypeId} (hk : keyK P kt = some ks) (hok : keyOk ks k = true) {b : Bool} (h : keyEq k k' = some b) {v v' : Value} (hv : VRel ι k v) (hv' : VRel ι k' v') :
    ∃ d, P.underlying kt = some d ∧ Instr.sameNow d v v' = some b := by
  unfold keyK at hk
  split at hk <;> simp at hk <;> subst hk <;> rename_i hu
  · cases k <;> simp [keyOk] at hok
    cases k' <;> simp [keyEq] at h
    simp only [VRel] at hv hv'; subst hv; subst hv'; subst h
    exact ⟨_, hu, rfl⟩
  · cases k <;> simp [keyOk] at hok
    cases k' <;> simp [keyEq] at h
    obtain ⟨h1, h2⟩ := h
    subst h1; subst h2
    simp only [VRel] at hv hv'; subst hv; subst hv'
    exact ⟨_, hu, by simp [Instr.sameNow]⟩
/-- what the search gives -/
def FRel (ι : Io) (key : Value) (ms : List MapEntry) (i0 : Nat) : Option (Nat × AV × Nat) → Option (Nat × Value) → Prop
  | none, x => x = none
  | some (i, v, s), x => ∃ (m : MapEntry) (j : Nat), x = some (i, m.val) ∧ VRel ι v m.val ∧ m.born = s ∧ i = i0 + j ∧ ms[j]? = some m ∧ m.key = key
theorem find_run {ks : Bool} {k : AV} {kt : TypeId} {d : TypeDesc} (hk : keyK P kt = some ks) (hd : P.underlying kt = some d) (hok : keyOk ks k = true) {v : Value} (hv : VRel ι k v) :
    ∀ {es : List (AV × AV × Nat)} {ms : List MapEntry} (_ : ERel ι es ms) (i : Nat) {r : Option (Nat × AV × Nat)} (_ : findE k es i = some r), ∃ x, Instr.findNow d v ms i = some x ∧ FRel ι v ms i r x
  | [], _, h, i, r, hr => by
    simp [ERel] at h; subst h
    simp [findE] at hr; subst hr
    exact ⟨none, rfl, rfl⟩
  | (k', v', s) :: es, _, ⟨m, ms, rfl, h1, h2, h3, h4⟩, i, r, hr => by
    simp only [findE] at hr
    split at hr
    · rename_i hq
      simp at hr; subst hr
      obtain ⟨d', hd', hs⟩ := keyEq_now hk hok hq hv h1
      rw [hd] at hd'; simp at hd'; subst hd'
      refine ⟨some (i, m.val), by simp [Instr.findNow, hs], m, 0, rfl, h2, h3, rfl, rfl, ?_⟩
      unfold keyEq at hq
      split at hq
      · split at hq <;> simp at hq
        rename_i hkk; subst hkk; subst hq
        rw [hv.int_inv, h1.int_inv]
      · rename_i a1 b1
        simp only [Option.some.injEq] at hq
        have hd : a1.data = b1.data := eq_of_beq (show (a1.data == b1.data) = true from hq)
        have hab : a1 = b1 := by cases a1; cases b1; simp at hd; rw [hd]
        subst hab
        simp only [VRel] at hv h1; rw [hv, h1]
      · simp at hq
    · rename_i hq
      obtain ⟨d', hd', hs⟩ := keyEq_now hk hok hq hv h1
      rw [hd] at hd'; simp at hd'; subst hd'
      obtain ⟨x, hx1, hx2⟩ := find_run hk hd hok hv h4 (i + 1) hr
      refine ⟨x, by simp [Instr.findNow, hs, hx1], ?_⟩
      cases r with
      | none => exact hx2
      | some r =>
        obtain ⟨i', v'', s'⟩ := r
        obtain ⟨m', j, e1, e2, e3, e4, e5, e6⟩ := hx2
        exact ⟨m', j + 1, e1, e2, e3, by omega, by simpa using e5, e6⟩
    · simp at hr
theorem keyK_desc {ks : Bool} {kt : TypeId} (hk : keyK P kt = some ks) : ∃ d, P.underlying kt = some d ∧ ((d = .string ∧ ks = true) ∨ (∃ ik, d = .int ik) ∧ ks = false) := by
  unfold keyK at hk
  split at hk <;> simp at hk <;> rename_i hu
  · exact ⟨_, hu, .inl ⟨rfl, hk⟩⟩
  · exact ⟨_, hu, .inr ⟨⟨_, rfl⟩, hk⟩⟩
theorem checkKey_run {ks : Bool} {kt : TypeId} (hk : keyK P kt = some ks) {k : AV} (hok : keyOk ks k = true) {v : Value} (hv : VRel ι k v) (em : Bool) (n : Nat) (w : World) : (Instr.checkKey em (n + 1) kt v).run P w = .ok () w := by
  obtain ⟨d, hd, h⟩ := keyK_desc hk
  rcases h with ⟨rfl, rfl⟩ | ⟨⟨ik, rfl⟩, rfl⟩
  · cases k <;> simp [keyOk] at hok
    simp only [VRel] at hv; subst hv
    simp [Instr.checkKey, run_und hd]
  · cases k <;> simp [keyOk] at hok
    simp only [VRel] at hv; subst hv
    simp [Instr.checkKey, run_und hd]
theorem findKey_run {ks : Bool} {kt : TypeId} (hk : keyK P kt = some ks) {k : AV} (hok : keyOk ks k = true) {v : Value} (hv : VRel ι k v) {es : List (AV × AV × Nat)} {ms : List MapEntry} (h : ERel ι es ms)
    {r : Option (Nat × AV × Nat)} (hr : findE k es 0 = some r) (w : World) : ∃ x, (Instr.findKey kt v ms).run P w = .ok x w ∧ FRel ι v ms 0 r x := by
  obtain ⟨d, hd, _⟩ := keyK_desc hk
  obtain ⟨x, h1, h2⟩ := find_run hk hd hok hv h 0 hr
  exact ⟨x, by simp [Instr.findKey, run_und hd, h1], h2⟩
theorem HRel.map (h : HRel P ι H w) {b : S} {es : List (AV × AV × Nat)} {cl : Nat} (hb : H.get b = some (.map es cl)) {r p q : Nat} (hi : ι b = some (r, p, q)) :
    ∃ ms, w.heap[r]? = some (.map ms cl) ∧ ERel ι es ms.toList := h.obj b _ hb r p q hi
theorem run_getMap {r : Nat} {ms : Array MapEntry} {cl : Nat} (h : w.heap[r]? = some (.map ms cl)) : (getObj r).run P w = .ok (.map ms cl) w := by
  simp [getObj, Sem.run, h]
theorem bytesOf_run {ι : Io} : ∀ {l : List AV} {vs : List Value} (_ : VRels ι l vs) {bs : List UInt8} (_ : bytesOf l = some bs) (s : ByteArray) (w : World),
    (forIn vs s (fun c r => match c with
      | .int .u8 n => pure (ForInStep.yield (r.push (UInt8.ofNat n.toNat)))
      | _ => do
        (stuck "bytesToString: byte expected" : Sem Unit)
        pure (ForInStep.yield r)) : Sem ByteArray).run P w = .ok ⟨s.data ++ bs.toArray⟩ w
  | [], _, h, bs, hb, s, w => by
    simp [VRels] at h; subst h
    simp [bytesOf] at hb; subst hb
    simp
  | x :: l, _, ⟨v, vs, rfl, h1, h2⟩, bs, hb, s, w => by
    unfold bytesOf at hb
    split at hb
    · simp at *
    · rename_i n r he
      simp at he
      obtain ⟨rfl, rfl⟩ := he
      split at hb <;> simp at hb
      rename_i l' hl'
      subst hb
      have h1 := h1.int_inv; subst h1
      rw [List.forIn_cons, Sem.run_bind]
      have ih := bytesOf_run h2 hl' (s.push (UInt8.ofNat n.toNat)) w
      simp only [Sem.run_pure, Result.andThen_ok]
      rw [ih]
      congr 1
      simp [ByteArray.push]
    · simp at hb

/-- the same, whatever was drawn, and the first of them -/
theorem HRel.rowk (h : HRel P ι H w) {b : S} {cs : List AV} (hb : cellsOf H b = some cs) {r p q : Nat} (hi : ι b = some (r, p, q)) {o n : Nat} {l : List AV} (hl : rowOf cs o n = some l) :
    ∃ vs : List Value, vs.length = n ∧ VRels ι l vs ∧ ∀ d k, k ≤ n → (loadCells ⟨r, p + o, none⟩ k).run P { w with drawn := d } = .ok (vs.take k).toArray { w with drawn := d } := by
  obtain ⟨h1, h2, h3⟩ := rowOf_some hl
  have hex : ∀ i, i < n → ∃ y, w.cell? ⟨r, p + o + i, none⟩ = some y ∧ ∀ x, l[i]? = some x → VRel ι x y := by
    intro i hi'
    have hx : l[i]? = cs[o + i]? := h3 i hi'
    have hlt : o + i < cs.length := by omega
    obtain ⟨y, hy, hr⟩ := h.cell hb hi (i := o + i) (x := cs[o + i]) (by simp [hlt])
    refine ⟨y, by rw [Nat.add_assoc]; exact hy, fun x hx' => ?_⟩
    rw [hx, List.getElem?_eq_getElem hlt] at hx'
    simp at hx'; subst hx'; exact hr
  let f : Nat → Value := fun i => (w.cell? ⟨r, p + o + i, none⟩).getD undef
  have hf : ∀ i, i < n → w.cell? ((⟨r, p + o, none⟩ : Addr).add i) = some (f i) := by
    intro i hi'
    obtain ⟨y, hy, _⟩ := hex i hi'
    rw [add_off]
    simp [f, hy]
  refine ⟨(List.range n).map f, by simp, VRels.of_get (by simp [h2]) fun i x hx => ?_, fun d k hk => ?_⟩
  · have hi' : i < n := by
      have := (List.getElem?_eq_some_iff.1 hx).1
      omega
    obtain ⟨y, hy, hr⟩ := hex i hi'
    refine ⟨y, ?_, hr x hx⟩
    simp [hi', f, hy]
  · rw [← List.map_take, List.take_range, Nat.min_eq_left hk]
    exact run_loadCells { w with drawn := d } _ k f fun j hj => hf j (by omega)
theorem HRel.rowd (h : HRel P ι H w) {b : S} {cs : List AV} (hb : cellsOf H b = some cs) {r p q : Nat} (hi : ι b = some (r, p, q)) {o n : Nat} {l : List AV} (hl : rowOf cs o n = some l) :
    ∃ vs : List Value, vs.length = n ∧ VRels ι l vs ∧ ∀ d, (loadCells ⟨r, p + o, none⟩ n).run P { w with drawn := d } = .ok vs.toArray { w with drawn := d } := by
  obtain ⟨vs, h1, h2, h3⟩ := h.rowk hb hi hl
  refine ⟨vs, h1, h2, fun d => ?_⟩
  have := h3 d n (Nat.le_refl _)
  rwa [List.take_of_length_le (by omega)] at this
/-- a load -/
theorem load1_run (h : HRel P ι H w) {v : Value} {b : S} {o : Nat} (hv : VRel ι (.ptr b o) v) {cs : List AV} (hb : cellsOf H b = some cs) {r : AV} (hr : cs[o]? = some r) {t : TypeId} (ht : isAggT P t = some false) :
    ∃ u, (Instr.loadAt t v).run P w = .ok u w ∧ VRel ι r u := by
  obtain ⟨r0, p, q, hi, rfl⟩ := hv
  obtain ⟨y, hy, hrel⟩ := h.cell hb hi hr
  exact ⟨y, by simp [Instr.loadAt, Instr.sureAddr, loadVar, run_agg ht, hy], hrel⟩
theorem loadN_run (h : HRel P ι H w) {v : Value} {b : S} {o n : Nat} (hv : VRel ι (.ptr b o) v) {cs : List AV} (hb : cellsOf H b = some cs) {l : List AV} (hr : rowOf cs o n = some l) {t : TypeId} (ht : isAggT P t = some true) (hn : sizeT P t = some n) :
    ∃ u, (Instr.loadAt t v).run P w = .ok u w ∧ VRel ι (.agg l) u := by
  obtain ⟨r0, p, q, hi, rfl⟩ := hv
  obtain ⟨vs, h1, h2, h3⟩ := h.row hb hi hr
  exact ⟨.agg vs.toArray, by simp [Instr.loadAt, Instr.sureAddr, loadVar, run_agg ht, run_size hn, h3], _, rfl, by simpa using h2⟩
/-- EACH OPERATION THAT ONLY READS gives a value that stands for the one told, and leaves the world as it is. -/
theorem rop_run {O : Oper} {ro : ROp} (h : cOp P O.op = some (.r ro)) (he : EnvRel ι e a.tmps) (hH : HRel P ι H w) {r : AV} (hr : ro.run e H = some r) :
    ∃ v, (execOp a.eval O).run P w = .ok (.value v) w ∧ VRel ι r v := by
  obtain ⟨dst, op, ty, pos, after, guard⟩ := O
  simp only at h
  have fin : ∀ (s : Sem Value), execOp a.eval ⟨dst, op, ty, pos, after, guard⟩ = (do pure (.value (← s))) → (∃ v, s.run P w = .ok v w ∧ VRel ι r v) →
      ∃ v, (execOp a.eval ⟨dst, op, ty, pos, after, guard⟩).run P w = .ok (.value v) w ∧ VRel ι r v :=
    fun s hs ⟨v, h1, h2⟩ => ⟨v, by rw [hs]; exact run_v h1, h2⟩
  cases op <;> simp only [cOp] at h <;> (try (first
    | (obtain ⟨_, _, e1⟩ := c1_some.1 h; simp at e1; done)
    | (obtain ⟨_, _, _, _, e1⟩ := c2_some.1 h; simp at e1; done)
    | (obtain ⟨_, _, _, _, _, _, e1⟩ := c3_some.1 h; simp at e1; done)
    | (simp at h; done)))
  case load t x =>
    split at h
    · rename_i n ht hn
      obtain ⟨y, hy, e1⟩ := c1_some.1 h
      simp at e1; subst e1
      have hv := cOpd_rel he hy
      simp only [ROp.run] at hr
      split at hr
      case h_2 => simp at hr
      rename_i b o e2; rw [e2] at hv
      split at hr
      case h_2 => simp at hr
      rename_i cs hcs
      split at hr
      case h_2 => simp at hr
      rename_i l hl
      simp at hr; subst hr
      exact fin _ rfl (loadN_run hH hv hcs hl ht hn)
    · rename_i n ht hn
      obtain ⟨y, hy, e1⟩ := c1_some.1 h
      simp at e1; subst e1
      have hv := cOpd_rel he hy
      simp only [ROp.run] at hr
      split at hr
      case h_2 => simp at hr
      rename_i b o e2; rw [e2] at hv
      split at hr
      case h_2 => simp at hr
      rename_i cs hcs
      exact fin _ rfl (load1_run hH hv hcs hr ht)
    · simp at h
  case alloc => split at h <;> simp at h
  case build =>
    split at h
    · split at h
      · split at h <;> simp at h
      · simp at h
    · split at h
      · split at h <;> simp at h
      · simp at h
    · simp at h
  case buildSlice =>
    split at h
    · split at h
      · split at h
        · split at h <;> simp at h
        · simp at h
      · simp at h
    · simp at h
  case insert =>
    split at h
    · split at h
      · obtain ⟨_, _, _, _, _, _, e1⟩ := c3_some.1 h; simp at e1
      · simp at h
    · simp at h
  case mapUpdate =>
    split at h
    · split at h
      · obtain ⟨_, _, _, _, _, _, e1⟩ := c3_some.1 h; simp at e1
      · simp at h
    · simp at h
  case store =>
    split at h
    · obtain ⟨_, _, _, _, e1⟩ := c2_some.1 h; simp at e1
    · simp at h
  case binOp bop _ _ _ _ =>
    cases bop <;> simp only [cOp] at h <;> (try (obtain ⟨_, _, _, _, e1⟩ := c2_some.1 h; simp at e1; done))
    · split at h
      · obtain ⟨_, _, _, _, e1⟩ := c2_some.1 h; simp at e1
      · obtain ⟨_, _, _, _, e1⟩ := c2_some.1 h; simp at e1
      · simp at h
    · split at h
      · obtain ⟨_, _, _, _, e1⟩ := c2_some.1 h; simp at e1
      · obtain ⟨_, _, _, _, e1⟩ := c2_some.1 h; simp at e1
      · simp at h
  case unOp uop _ _ =>
    cases uop <;> simp only [cOp] at h <;> (try (obtain ⟨_, _, e1⟩ := c1_some.1 h; simp at e1; done)) <;> simp at h
  case convert s d x =>
    split at h
    · obtain ⟨_, _, e1⟩ := c1_some.1 h; simp at e1
    · split at h
      · obtain ⟨_, _, e1⟩ := c1_some.1 h; simp at e1
      · simp at h
    · rename_i el hs hd
      split at h
      case h_2 => simp at h
      rename_i hel
      obtain ⟨y, hy, e1⟩ := c1_some.1 h
      simp at e1; subst e1
      have hv := cOpd_rel he hy
      simp only [ROp.run] at hr
      split at hr
      · rename_i e2; rw [e2] at hv; simp only [VRel] at hv
        simp at hr; subst hr
        exact fin _ rfl ⟨_, by simp [hv, convert, run_und hs, run_und hd, run_und hel, Conv.bytesToString], rfl⟩
      · rename_i z b o n c e2; rw [e2] at hv
        split at hr
        case isFalse => simp at hr
        rename_i hz
        split at hr
        case h_2 => simp at hr
        rename_i cs hcs
        split at hr
        case h_2 => simp at hr
        rename_i l hl
        split at hr
        case h_2 => simp at hr
        rename_i bs hbs
        simp at hr; subst hr
        obtain ⟨r0, p, q, ad, cap, hi, e4, hcap, had⟩ := hv
        have key : ∃ vs : List Value, VRels ι l vs ∧ (loadCells ad n).run P w = .ok vs.toArray w := by
          rcases had with h0 | ⟨rfl, _⟩
          · have hn : n = 0 := by cases c <;> simp only [CapRel] at hcap <;> omega
            subst hn
            have := rowOf_some hl
            have hl0 : l = [] := List.eq_nil_of_length_eq_zero this.2.1
            subst hl0
            exact ⟨[], rfl, by simp [loadCells, loadCellsFrom]⟩
          · obtain ⟨vs, h1, h2, h3⟩ := hH.row hcs hi hl
            exact ⟨vs, h2, h3⟩
        obtain ⟨vs, k1, k2⟩ := key
        refine fin _ rfl ⟨.string ⟨bs.toArray⟩, ?_, rfl⟩
        have := bytesOf_run (P := P) k1 hbs ByteArray.empty w
        simp only [e4, convert, Sem.run_bind, run_und hs, run_und hd, run_und hel, Result.andThen_ok, Conv.bytesToString, k2]
        rw [← Array.forIn_toList]
        have e5 : (vs.toArray.toList) = vs := by simp
        rw [e5]
        exact (congrArg (fun r => Result.andThen r (fun a w' => Sem.run P (pure (Value.string a)) w')) this).trans (by have h0 : ByteArray.empty.data = #[] := rfl; simp only [h0, Array.empty_append, Result.andThen_ok, Sem.run_pure])
      · simp at hr
    · simp at h
  case makeInterface =>
    split at h
    · simp at h
    · obtain ⟨_, _, e1⟩ := c1_some.1 h; simp at e1
    · simp at h
  case makeFunc fn _ _ =>
    cases fn <;> simp only [cOp] at h
    · split at h <;> simp at h
    all_goals simp at h
  case makeMap rs =>
    cases rs <;> simp [cOp] at h
  case makeSlice =>
    split at h
    · split at h
      · split at h
        · obtain ⟨_, _, _, _, e1⟩ := c2_some.1 h; simp at e1
        · simp at h
      · simp at h
    · simp at h
  case slice t x lo hi mx =>
    split at h
    case h_2 => simp at h
    rename_i x' lo' hi' mx' hx hlo hhi hmx
    have hv := cOpd_rel he hx
    have vlo := cOpdO_B he hlo
    have vhi := cOpdO_B he hhi
    have vmx := cOpdO_B he hmx
    split at h
    · rename_i n el hu
      split at h
      case h_2 => simp at h
      rename_i s hs
      simp at h; subst h
      simp only [ROp.run] at hr
      split at hr
      case h_2 => simp at hr
      rename_i b o e2; rw [e2] at hv
      split at hr
      case h_2 => simp at hr
      rename_i cs hcs
      split at hr
      case isFalse => simp at hr
      rename_i hlen
      split at hr
      case h_2 => simp at hr
      rename_i l hh m hb
      simp at hr; subst hr
      obtain ⟨r0, p, q, hi0, e4⟩ := hv
      obtain ⟨c, el', fz, g1, g2, g3, _⟩ := hH.cells hcs hi0
      obtain ⟨M, hrun, h1, h2, h3, h4⟩ := bounds_run (P := P) hb vlo vhi vmx (show CapRel (.exact n) n n from ⟨rfl, Nat.le_refl _⟩) false w
      refine fin _ rfl ⟨.slice (some (if M = l then ⟨r0, p + o, none⟩ else (⟨r0, p + o, none⟩ : Addr).add (l * s))) (hh - l) (M - l), ?_, ?_⟩
      · simp only [Instr.sliceAt, Sem.run_bind, run_und hu, Result.andThen_ok, e4, Instr.sureAddr, Sem.run_pure, hrun, run_size hs]
      · by_cases hM : M = l
        · exact ⟨r0, p, q, _, M - l, hi0, rfl, h4, .inl (by omega)⟩
        · refine ⟨r0, p, q, _, M - l, hi0, rfl, h4, .inr ⟨by rw [if_neg hM, add_off, Nat.add_assoc], ?_⟩⟩
          have e1 : (M - l) * s + l * s = M * s := by rw [← Nat.add_mul]; congr 1; omega
          have e2 : M * s ≤ n * s := Nat.mul_le_mul_right _ h3
          omega
    · split at h <;> simp at h
    · split at h <;> simp at h
    · simp at h
  case fieldAddr =>
    split at h
    · split at h
      · split at h
        · split at h
          · simp at h
          · obtain ⟨_, _, e1⟩ := c1_some.1 h; simp at e1
        · simp at h
      · simp at h
    · simp at h
  case field =>
    split at h
    · split at h
      · split at h
        · obtain ⟨_, _, e1⟩ := c1_some.1 h; simp at e1
        · simp at h
      · simp at h
    · simp at h
  case indexAddr =>
    split at h
    · split at h
      · obtain ⟨_, _, _, _, e1⟩ := c2_some.1 h; simp at e1
      · simp at h
    · split at h
      · obtain ⟨_, _, _, _, e1⟩ := c2_some.1 h; simp at e1
      · simp at h
    · simp at h
  case index =>
    split at h
    · split at h
      · obtain ⟨_, _, _, _, e1⟩ := c2_some.1 h; simp at e1
      · simp at h
    · obtain ⟨_, _, _, _, e1⟩ := c2_some.1 h; simp at e1
    · simp at h
  case lookup t x i ok =>
    split at h
    case h_2 => simp at h
    rename_i kt el hu
    split at h
    case h_2 => simp at h
    rename_i z ks hz hks
    obtain ⟨p, q, hp, hq, e1⟩ := c2_some.1 h
    simp at e1; subst e1
    have hx := cOpd_rel he hp
    have hy := cOpd_rel he hq
    simp only [ROp.run] at hr
    split at hr
    case isFalse => simp at hr
    rename_i hok
    obtain ⟨zv, hz1, hz2⟩ := run_zeroV hz w
    have tupR : ∀ {x : AV} {v : Value} {bb : Bool}, VRel ι x v → VRel ι (.tup [x, .bool bb]) (.tuple #[v, .bool bb]) := fun h => ⟨_, rfl, _, _, rfl, h, _, _, rfl, rfl, rfl⟩
    split at hr
    · rename_i e2; rw [e2] at hx; simp only [VRel] at hx
      simp at hr; subst hr
      refine fin _ rfl ⟨if ok then .tuple #[zv, .bool false] else zv, ?_, ?_⟩
      · obtain ⟨d, hd, _⟩ := keyK_desc hks
        simp only [Instr.lookup, Sem.run_bind, run_und hu, hx, Result.andThen_ok, Sem.run_pure, checkKey_run hks hok hy _ 9999, Instr.findKey, run_und hd, Instr.findNow, hz1]
      · cases ok
        · exact hz2
        · exact tupR hz2
    · rename_i b e2; rw [e2] at hx
      split at hr
      case h_2 => simp at hr
      rename_i es cl hes
      obtain ⟨r0, q0, hi, e4⟩ := hx
      obtain ⟨ms, g1, g2⟩ := hH.map hes hi
      have gm := run_getMap (P := P) g1
      split at hr
      · rename_i i0 v0 s0 hf
        simp at hr; subst hr
        obtain ⟨x, f1, f2⟩ := findKey_run hks hok hy g2 hf w
        obtain ⟨m, j, rfl, f3, _⟩ := f2
        refine fin _ rfl ⟨if ok then .tuple #[m.val, .bool true] else m.val, ?_, ?_⟩
        · simp only [Instr.lookup, Sem.run_bind, run_und hu, e4, gm, Result.andThen_ok, Sem.run_pure, checkKey_run hks hok hy _ 9999, f1]
        · cases ok
          · exact f3
          · exact tupR f3
      · rename_i hf
        simp at hr; subst hr
        obtain ⟨x, f1, f2⟩ := findKey_run hks hok hy g2 hf w
        simp only [FRel] at f2; subst f2
        refine fin _ rfl ⟨if ok then .tuple #[zv, .bool false] else zv, ?_, ?_⟩
        · simp only [Instr.lookup, Sem.run_bind, run_und hu, e4, gm, Result.andThen_ok, Sem.run_pure, checkKey_run hks hok hy _ 9999, f1, hz1]
        · cases ok
          · exact hz2
          · exact tupR hz2
      · simp at hr
    · simp at hr
  case mapEntry =>
    split at h
    · split at h
      · obtain ⟨_, _, _, _, e1⟩ := c2_some.1 h; simp at e1
      · simp at h
    · simp at h
  case call c =>
    split at h
    · split at h
      · split at h
        · simp at h
        · obtain ⟨_, _, e1⟩ := c1_some.1 h; simp at e1
      · simp at h
    · rename_i b hb
      unfold cBuiltin at h
      split at h
      · rename_i t x ht hx
        obtain hts := toList_one ht
        obtain hxs := toList_one hx
        split at h
        · obtain ⟨_, _, e1⟩ := c1_some.1 h; simp at e1
        · obtain ⟨_, _, e1⟩ := c1_some.1 h; simp at e1
        · simp at h
        · split at h <;> simp at h
        · rename_i hu
          obtain ⟨y, hy, e1⟩ := c1_some.1 h
          simp at e1; subst e1
          have hv := cOpd_rel he hy
          rw [builtin_eq (O := ⟨dst, .call c, ty, pos, after, guard⟩) rfl hb, hts, hxs]
          simp only [ROp.run] at hr
          split at hr
          · rename_i b0 e2; rw [e2] at hv
            split at hr
            case h_2 => simp at hr
            rename_i es cl hes
            simp at hr; subst hr
            obtain ⟨r0, q0, hi, e4⟩ := hv
            obtain ⟨ms, g1, g2⟩ := hH.map hes hi
            refine ⟨.int .i64 ms.size, ?_, ?_⟩
            · simp [builtin, Builtin.len_, run_und hu, e4, run_getMap (P := P) g1, goInt]
            · have := g2.length; simp at this; simp [VRel, this]
          · rename_i e2; rw [e2] at hv; simp only [VRel] at hv
            simp at hr; subst hr
            exact ⟨.int .i64 0, by simp [builtin, Builtin.len_, run_und hu, hv, goInt], rfl⟩
          · simp at hr
        · simp at h
      · split at h
        · obtain ⟨_, _, e1⟩ := c1_some.1 h; simp at e1
        · simp at h
      · split at h
        · split at h
          · split at h
            · obtain ⟨_, _, _, _, e1⟩ := c2_some.1 h; simp at e1
            · simp at h
          · simp at h
        · split at h
          · split at h
            · obtain ⟨_, _, _, _, e1⟩ := c2_some.1 h; simp at e1
            · simp at h
          · simp at h
        · simp at h
      · split at h
        · split at h
          · split at h
            · obtain ⟨_, _, _, _, e1⟩ := c2_some.1 h; simp at e1
            · simp at h
          · simp at h
        · simp at h
      · split at h <;> simp at h
      · split at h <;> simp at h
      · split at h
        · split at h
          · obtain ⟨_, _, _, _, e1⟩ := c2_some.1 h; simp at e1
          · simp at h
        · simp at h
      · split at h
        · split at h
          · split at h
            · obtain ⟨_, _, e1⟩ := c1_some.1 h; simp at e1
            · simp at h
          · simp at h
        · simp at h
      · simp at h
    · simp at h
end
end Go.Ab
/- Steps of the memory: what a step may touch; new blocks; writes to a block. -/
set_option linter.unusedSimpArgs false
set_option linter.unusedVariables false
namespace Go.Ab
open Go

/-- a step from names nx to nx': the places that there were stay; rows that belong to no named block stay as they are; a block without a place stays as it is -/
structure St (ι : Io) (H : Hp) (nx nx' : S) (w : World) (ι' : Io) (H' : Hp) (w' : World) : Prop where
  tape : w'.tape = w.tape
  os : w'.os = w.os
  output : w'.output = w.output
  size : w.heap.size ≤ w'.heap.size
  le : ι.le ι'
  out : ∀ b : S, (b.toNat < nx.toNat ∨ nx'.toNat ≤ b.toNat) → ι' b = ι b
  keep : ∀ r, r < w.heap.size → (∀ b ob p q, H.get b = some ob → ι b ≠ some (r, p, q)) → w'.heap[r]? = w.heap[r]?
  sub : ∀ b ob r p q, H'.get b = some ob → ι' b = some (r, p, q) → r < w.heap.size → ∃ b0 ob0 p0 q0, H.get b0 = some ob0 ∧ ι b0 = some (r, p0, q0)
  pres : ∀ b : S, (b.toNat < nx.toNat ∨ nx'.toNat ≤ b.toNat) → ι b = none → H'.get b = H.get b
  nxle : nx.toNat ≤ nx'.toNat
def FreshI (ι : Io) (nx nx' : S) : Prop := ∀ b : S, nx.toNat ≤ b.toNat → b.toNat < nx'.toNat → ι b = none

theorem St.refl (ι : Io) (H : Hp) (nx : S) (w : World) : St ι H nx nx w ι H w :=
  ⟨rfl, rfl, rfl, Nat.le_refl _, Io.le_refl _, fun _ _ => rfl, fun _ _ _ => rfl, fun b ob r p q h h' _ => ⟨b, ob, p, q, h, h'⟩, fun _ _ _ => rfl, Nat.le_refl _⟩
theorem St.trans {ι ι1 ι2 : Io} {H H1 H2 : Hp} {nx n1 n2 : S} {w w1 w2 : World} (h : St ι H nx n1 w ι1 H1 w1) (h' : St ι1 H1 n1 n2 w1 ι2 H2 w2) : St ι H nx n2 w ι2 H2 w2 where
  tape := h'.tape.trans h.tape
  os := h'.os.trans h.os
  output := h'.output.trans h.output
  size := Nat.le_trans h.size h'.size
  le := Io.le_trans h.le h'.le
  out b hb := by
    have a1 := h.nxle; have a2 := h'.nxle
    rw [h'.out b (by omega), h.out b (by omega)]
  keep r hr hn := by
    rw [h'.keep r (Nat.lt_of_lt_of_le hr h.size) fun b ob p q hb hi => ?_, h.keep r hr hn]
    obtain ⟨b0, ob0, p0, q0, e1, e2⟩ := h.sub b ob r p q hb hi hr
    exact hn b0 ob0 p0 q0 e1 e2
  sub b ob r p q hb hi hr := by
    obtain ⟨b1, ob1, p1, q1, e1, e2⟩ := h'.sub b ob r p q hb hi (Nat.lt_of_lt_of_le hr h.size)
    exact h.sub b1 ob1 r p1 q1 e1 e2 hr
  pres b hb hn := by
    have a1 := h.nxle; have a2 := h'.nxle
    rw [h'.pres b (by omega) (by rw [h.out b (by omega)]; exact hn), h.pres b (by omega) hn]
  nxle := Nat.le_trans h.nxle h'.nxle

section
variable {P : Program} {ι : Io} {e : Env} {a : Act} {H : Hp} {w : World}

theorem HRel.lt (h : HRel P ι H w) {b : S} {ob : Ob} (hb : H.get b = some ob) {r p q : Nat} (hi : ι b = some (r, p, q)) : r < w.heap.size := by
  have := h.obj b ob hb r p q hi
  rcases Nat.lt_or_ge r w.heap.size with h1 | h1
  · exact h1
  · rw [Array.getElem?_eq_none h1] at this
    cases ob with
    | cells => obtain ⟨_, _, _, e, _⟩ := this; simp at e
    | map => obtain ⟨_, e, _⟩ := this; simp at e
    | loop => obtain ⟨_, _, _, _, _, _, _, e, _⟩ := this; simp at e

/-- the places with one more -/
def Io.add (ι : Io) (id : S) (x : Nat × Nat × Nat) : Io := fun b => if b = id then some x else ι b
theorem Io.le_add {ι : Io} {id : S} {x : Nat × Nat × Nat} (h : ι id = none) : ι.le (ι.add id x) := by
  intro b y hb
  unfold Io.add
  split
  · rename_i e; subst e; rw [h] at hb; simp at hb
  · exact hb
theorem succ_between {id b : S} (h : b.toNat < id.toNat ∨ id.succ.toNat ≤ b.toNat) : b ≠ id := by
  rw [S.toNat_succ] at h
  rintro rfl; omega

/-- a new block -/
theorem alloc_step (hH : HRel P ι H w) {id : S} (hid : ι id = none) {ob : Ob} {o : Obj} {q : Nat} (ho : ORel P (ι.add id (w.heap.size, 0, q)) ob 0 q (some o)) (d : Nat) :
    HRel P (ι.add id (w.heap.size, 0, q)) (H.set id ob) { w with heap := w.heap.push o, drawn := d } ∧
    St ι H id id.succ w (ι.add id (w.heap.size, 0, q)) (H.set id ob) { w with heap := w.heap.push o, drawn := d } := by
  have hle := Io.le_add (ι := ι) (id := id) (x := (w.heap.size, 0, q)) hid
  have hold : ∀ b ob r p q', (H.set id ob).get b = (H.set id ob).get b → b ≠ id → H.get b = some ob → ι b = some (r, p, q') → r < w.heap.size := fun b ob r p q' _ _ h1 h2 => hH.lt h1 h2
  refine ⟨⟨fun b ob' hb r p q' hi => ?_, fun b ob1 b' ob2 hb hb' r p q1 p' q2 hi hi' => ?_⟩, ⟨rfl, rfl, rfl, by simp, hle, fun b hb => ?_, fun r hr _ => ?_, fun b ob' r p q' hb hi hr => ?_, fun b hb _ => ?_, by rw [S.toNat_succ]; omega⟩⟩
  · rw [Tr.get_set] at hb
    unfold Io.add at hi
    by_cases hbi : b = id
    · subst hbi
      rw [if_pos rfl] at hb hi
      simp at hb hi; obtain ⟨rfl, rfl, rfl⟩ := hi; subst hb
      simpa using ho
    · rw [if_neg hbi] at hb hi
      have h1 := hH.obj b ob' hb r p q' hi
      have h2 := hH.lt hb hi
      have : (w.heap.push o)[r]? = w.heap[r]? := by rw [Array.getElem?_push]; simp; omega
      show ORel P _ ob' p q' (w.heap.push o)[r]?
      rw [this]; exact h1.mono hle
  · rw [Tr.get_set] at hb hb'
    unfold Io.add at hi hi'
    by_cases h1 : b = id <;> by_cases h2 : b' = id
    · rw [h1, h2]
    · subst h1
      rw [if_pos rfl] at hi; rw [if_neg h2] at hb' hi'
      have := hH.lt hb' hi'
      simp at hi; omega
    · subst h2
      rw [if_pos rfl] at hi'; rw [if_neg h1] at hb hi
      have := hH.lt hb hi
      simp at hi'; omega
    · rw [if_neg h1] at hb hi; rw [if_neg h2] at hb' hi'
      exact hH.inj b ob1 b' ob2 hb hb' r p q1 p' q2 hi hi'
  · unfold Io.add; rw [if_neg (succ_between hb)]
  · show (w.heap.push o)[r]? = w.heap[r]?
    rw [Array.getElem?_push]; simp; omega
  · rw [Tr.get_set] at hb
    unfold Io.add at hi
    by_cases hbi : b = id
    · subst hbi; rw [if_pos rfl] at hi; simp at hi; omega
    · rw [if_neg hbi] at hb hi; exact ⟨b, ob', p, q', hb, hi⟩
  · rw [Tr.get_set, if_neg (succ_between hb)]

/-- a write into a block -/
theorem write_step (hH : HRel P ι H w) {b : S} {ob ob' : Ob} (hb : H.get b = some ob) {r p q : Nat} (hi : ι b = some (r, p, q)) {w' : World} (hr : ORel P ι ob' p q w'.heap[r]?)
    (hsz : w'.heap.size = w.heap.size) (hoth : ∀ r', r' ≠ r → w'.heap[r']? = w.heap[r']?) (ht : w'.tape = w.tape) (hos : w'.os = w.os) (hout : w'.output = w.output) {nx nx' : S} (hnx : nx.toNat ≤ nx'.toNat) :
    HRel P ι (H.set b ob') w' ∧ St ι H nx nx' w ι (H.set b ob') w' := by
  refine ⟨⟨fun c oc hc r1 p1 q1 h1 => ?_, fun c oc c' oc' hc hc' r1 p1 q1 p1' q1' h1 h1' => ?_⟩, ⟨ht, hos, hout, by omega, Io.le_refl _, fun _ _ => rfl, fun r1 hr1 hn => ?_, fun c oc r1 p1 q1 hc h1 _ => ?_, fun c _ hn => ?_, hnx⟩⟩
  · rw [Tr.get_set] at hc
    split at hc
    · rename_i e; subst e; simp at hc; subst hc
      rw [hi] at h1; simp at h1; obtain ⟨rfl, rfl, rfl⟩ := h1; exact hr
    · rename_i e
      have : r1 ≠ r := by
        rintro rfl
        exact e (hH.inj c oc b ob hc hb r1 p1 q1 p q h1 hi)
      rw [hoth r1 this]; exact hH.obj c oc hc r1 p1 q1 h1
  · rw [Tr.get_set] at hc hc'
    have hc1 : ∃ o, H.get c = some o := by
      split at hc
      · rename_i e; subst e; exact ⟨_, hb⟩
      · exact ⟨_, hc⟩
    have hc2 : ∃ o, H.get c' = some o := by
      split at hc'
      · rename_i e; subst e; exact ⟨_, hb⟩
      · exact ⟨_, hc'⟩
    obtain ⟨o1, g1⟩ := hc1
    obtain ⟨o2, g2⟩ := hc2
    exact hH.inj c o1 c' o2 g1 g2 r1 p1 q1 p1' q1' h1 h1'
  · exact hoth r1 (by rintro rfl; exact hn b ob p q hb hi)
  · rw [Tr.get_set] at hc
    split at hc
    · rename_i e; subst e; exact ⟨c, ob, p1, q1, hb, h1⟩
    · exact ⟨c, oc, p1, q1, hc, h1⟩
  · rw [Tr.get_set, if_neg]
    rintro rfl; rw [hi] at hn; simp at hn

/-- cells written one behind the other -/
theorem storeCells_run : ∀ (vs : List Value) (k : Nat) (r o : Nat) (w : World) (c : Array Value) (el : TypeId) (fz : Nat × Nat), w.heap[r]? = some (.cells c el fz) → o + k + vs.length ≤ c.size →
    (∀ v ∈ vs, v.oneCell' = true) → (∀ i, o + k ≤ i → i < o + k + vs.length → (fz.1 ≤ i && i < fz.2) = false) →
    ∃ w' c', (storeCells ⟨r, o, none⟩ vs k).run P w = .ok () w' ∧ w'.heap[r]? = some (.cells c' el fz) ∧ c'.size = c.size ∧ (∀ j, c'[j]? = if o + k ≤ j ∧ j < o + k + vs.length then vs[j - (o + k)]? else c[j]?) ∧
      w'.heap.size = w.heap.size ∧ (∀ r', r' ≠ r → w'.heap[r']? = w.heap[r']?) ∧ w'.tape = w.tape ∧ w'.os = w.os ∧ w'.output = w.output ∧ w'.drawn = w.drawn
  | [], k, r, o, w, c, el, fz, h, _, _, _ => ⟨w, c, rfl, h, rfl, fun j => by simp; omega, rfl, fun _ _ => rfl, rfl, rfl, rfl, rfl⟩
  | v :: vs, k, r, o, w, c, el, fz, h, hl, h1, hf => by
    simp only [List.length_cons] at hl hf
    have hv := h1 v (by simp)
    have hfz := hf (o + k) (Nat.le_refl _) (by omega)
    have hcell : w.cell? ⟨r, o + k, none⟩ = some c[o + k] := by
      simp [World.cell?, h, Array.getElem?_eq_getElem (show o + k < c.size by omega)]
    have hfr : w.frozen? ⟨r, o + k, none⟩ = false := by simpa [World.frozen?, h] using hfz
    have hlt : r < w.heap.size := by
      rcases Nat.lt_or_ge r w.heap.size with h2 | h2
      · exact h2
      · rw [Array.getElem?_eq_none h2] at h; simp at h
    have hst : (store ((⟨r, o, none⟩ : Addr).add k) v).run P w = .ok () (w.setCell ⟨r, o + k, none⟩ v) := by
      rw [add_off, run_store P w _ v _ hv, hcell]
      simp [hfr]
    have hrow : (w.setCell ⟨r, o + k, none⟩ v).heap[r]? = some (.cells (c.setIfInBounds (o + k) v) el fz) := by
      simp [World.setCell, Array.getElem?_modify, h]
    have hsz : (w.setCell ⟨r, o + k, none⟩ v).heap.size = w.heap.size := by simp [World.setCell]
    obtain ⟨w', c', g1, g2, g3, g4, g5, g6, g7, g8, g9, g10⟩ := storeCells_run vs (k + 1) r o (w.setCell ⟨r, o + k, none⟩ v) (c.setIfInBounds (o + k) v) el fz hrow (by simp; omega) (fun x hx => h1 x (by simp [hx]))
      (fun i h1 h2 => hf i (by omega) (by omega))
    refine ⟨w', c', ?_, g2, by simpa using g3, fun j => ?_, g5.trans hsz, fun r' hr' => ?_, g7, g8, g9, g10⟩
    · rw [storeCells, Sem.run_bind, hst, Result.andThen_ok, g1]
    · rw [g4 j]
      simp only [List.length_cons]
      by_cases e : j = o + k
      · subst e
        rw [if_neg (by omega), if_pos (by omega)]
        have : o + k < c.size := by omega
        simp [Array.getElem?_setIfInBounds, this]
      · by_cases e2 : o + (k + 1) ≤ j ∧ j < o + (k + 1) + vs.length
        · rw [if_pos e2, if_pos (by omega)]
          rw [show j - (o + k) = (j - (o + (k + 1))) + 1 by omega, List.getElem?_cons_succ]
        · rw [if_neg e2, if_neg (by omega)]
          rw [Array.getElem?_setIfInBounds, if_neg (by omega)]
    · rw [g6 r' hr']
      simp only [World.setCell, Array.getElem?_modify]
      rw [if_neg (by omega)]
theorem storeL_some : ∀ {vs : List AV} {c c' : List AV} {o : Nat}, storeL c o vs = some c' → c'.length = c.length ∧ (vs ≠ [] → o + vs.length ≤ c.length) ∧ (∀ v ∈ vs, v.one = true) ∧
    (∀ j, c'[j]? = if o ≤ j ∧ j < o + vs.length then vs[j - o]? else c[j]?) ∧ ((∀ x ∈ c, isU8 x = true) → ∀ x ∈ c', isU8 x = true)
  | [], c, c', o, h => by
    simp [storeL] at h; subst h
    exact ⟨rfl, by simp, by simp, fun j => by simp; omega, fun h => h⟩
  | v :: vs, c, c', o, h => by
    simp only [storeL] at h
    split at h
    case isFalse => simp at h
    rename_i hc
    obtain ⟨h1, h2, h3, h4, h5⟩ := storeL_some h
    simp only [List.length_set] at h1 h2
    refine ⟨h1, fun _ => ?_, ?_, fun j => ?_, fun hu => h5 fun x hx => ?_⟩
    · simp only [List.length_cons]
      by_cases hv : vs = []
      · subst hv; simp; omega
      · have := h2 hv; omega
    · intro x hx
      simp at hx
      rcases hx with rfl | hx
      · exact hc.2.1
      · exact h3 x hx
    · rw [h4 j]
      simp only [List.length_cons]
      by_cases e : j = o
      · subst e
        rw [if_neg (by omega), if_pos (by omega)]
        simp [hc.1]
      · by_cases e2 : o + 1 ≤ j ∧ j < o + 1 + vs.length
        · rw [if_pos e2, if_pos (by omega)]
          rw [show j - o = (j - (o + 1)) + 1 by omega, List.getElem?_cons_succ]
        · rw [if_neg e2, if_neg (by omega), List.getElem?_set]
          rw [if_neg (by omega)]
    · rcases List.mem_or_eq_of_mem_set hx with h6 | rfl
      · exact hu x h6
      · have h7 := hc.2.2
        rw [List.getElem?_eq_getElem hc.1] at h7
        simp only [uOk1, hu _ (List.getElem_mem hc.1), cond_true] at h7
        exact h7
theorem VRels.mem_one {ι : Io} : ∀ {as : List AV} {vs : List Value}, VRels ι as vs → (∀ v ∈ as, v.one = true) → ∀ v ∈ vs, v.oneCell' = true
  | [], _, h, _, v, hv => by simp [VRels] at h; subst h; simp at hv
  | x :: as, _, ⟨u, us, rfl, h1, h2⟩, ho, v, hv => by
    simp at hv
    rcases hv with rfl | hv
    · exact h1.one (ho x (by simp))
    · exact VRels.mem_one h2 (fun y hy => ho y (by simp [hy])) v hv

/-- cells of a block are written -/
theorem stores_run (hH : HRel P ι H w) {b : S} {cs cs' : List AV} (hb : cellsOf H b = some cs) {r p q : Nat} (hi : ι b = some (r, p, q)) {o : Nat} {as : List AV} (hs : storeL cs o as = some cs')
    {vs : List Value} (hv : VRels ι as vs) {nx nx' : S} (hnx : nx.toNat ≤ nx'.toNat) :
    ∃ w', (storeCells ⟨r, p + o, none⟩ vs).run P w = .ok () w' ∧ HRel P ι (H.set b (.cells cs')) w' ∧ St ι H nx nx' w ι (H.set b (.cells cs')) w' := by
  obtain ⟨h1, h2, h3, h4, h5⟩ := storeL_some hs
  have hlen := hv.length
  obtain ⟨c, el, fz, g1, g2, g3, g4, g5, g6⟩ := hH.cells hb hi
  have hbo : H.get b = some (.cells cs) := by
    unfold cellsOf at hb
    split at hb <;> simp at hb
    subst hb; assumption
  by_cases hv0 : as = []
  · subst hv0
    simp [VRels] at hv; subst hv
    simp [storeL] at hs; subst hs
    refine ⟨w, rfl, write_step hH hbo hi (w' := w) (hH.obj b _ hbo r p q hi) rfl (fun _ _ => rfl) rfl rfl rfl hnx⟩
  · have hsz := h2 hv0
    obtain ⟨w', c', k1, k2, k3, k4, k5, k6, k7, k8, k9, k10⟩ := storeCells_run (P := P) vs 0 r (p + o) w c el fz g1 (by omega) (hv.mem_one h3) (fun i hi1 hi2 => g5 i (by omega) (by omega))
    refine ⟨w', k1, write_step hH hbo hi (w' := w') ?_ k5 k6 k7 k8 k9 hnx⟩
    refine ⟨c', el, fz, k2, by omega, by omega, fun i x hx => ?_, g5, fun m1 m2 => ?_⟩
    rotate_left
    · obtain ⟨m3, m4⟩ := g6 m1 m2
      exact ⟨fun e => m3 (List.eq_nil_of_length_eq_zero (by rw [← h1, e]; rfl)), h5 m4⟩
    rw [k4 (p + i)]
    rw [h4 i] at hx
    by_cases e : o ≤ i ∧ i < o + as.length
    · rw [if_pos e] at hx
      rw [if_pos (by omega), show p + i - (p + o + 0) = i - o by omega]
      exact hv.get _ _ hx
    · rw [if_neg e] at hx
      rw [if_neg (by omega)]
      exact g4 i x hx
end
end Go.Ab
/- Operations that make memory. -/
set_option linter.unusedSimpArgs false
set_option linter.unusedVariables false
namespace Go.Ab
open Go
section
variable {P : Program} {ι : Io} {e : Env} {a : Act} {H : Hp} {w : World}

/-- what an operation that turns the memory comes to -/
def Steps1 (P : Program) (ι : Io) (H : Hp) (nx nx' : S) (w : World) (s : Sem Next) (skip : Bool) (r : AV) (H' : Hp) : Prop :=
  ∃ ι' w' u, s.run P w = .ok (if skip then .skip else .value u) w' ∧ VRel ι' r (if skip then undef else u) ∧ HRel P ι' H' w' ∧ St ι H nx nx' w ι' H' w'

theorem cells_ORel {ι : Io} {cs : List AV} {vs : List Value} (h : VRels ι cs vs) (extra : List Value) {el : TypeId} {fz : Nat × Nat} (hf : fz = (0, 0) ∨ (fz.1 = (vs ++ extra).length ∧ cs ≠ [] ∧ ∀ x ∈ cs, isU8 x = true)) :
    ORel P ι (.cells cs) 0 (vs ++ extra).length (some (.cells (vs ++ extra).toArray el fz)) := by
  refine ⟨_, el, fz, rfl, by simp, by simp [h.length], fun i x hx => ?_, fun i _ hi => ?_, fun m1 m2 => ?_⟩
  · obtain ⟨y, hy, hr⟩ := h.get i x hx
    refine ⟨y, ?_, hr⟩
    have : i < vs.length := (List.getElem?_eq_some_iff.1 hy).1
    rw [Nat.zero_add, List.getElem?_toArray, List.getElem?_append_left this, hy]
  · rcases hf with rfl | ⟨hf, _⟩
    · simp
    · have : ¬ fz.1 ≤ i := by omega
      simp [this]
  · rcases hf with rfl | ⟨_, hf⟩
    · simp at m2
    · exact hf
theorem cells_ORel' {ι : Io} {cs : List AV} {vs : Array Value} (h : VRels ι cs vs.toList) {el : TypeId} : ORel P ι (.cells cs) 0 vs.size (some (.cells vs el)) := by
  have := cells_ORel (P := P) h [] (el := el) (fz := (0, 0)) (.inl rfl)
  simpa using this
theorem map_mod : ∀ (n : Nat) {z : List AV} {zs : Array Value}, VRels ι z zs.toList → VRels ι (repL z n) ((Array.range (n * zs.size)).map (fun i => zs[i % zs.size]!)).toList := by
  intro n z zs hz
  have hzl := hz.length
  simp only [Array.length_toList] at hzl
  have hlen : ∀ n, (repL z n).length = n * z.length := by
    intro n
    induction n with
    | zero => simp [repL]
    | succ n ih => simp [repL, ih, Nat.add_mul, Nat.add_comm]
  have hget : ∀ n i, i < n * z.length → (repL z n)[i]? = z[i % z.length]? := by
    intro n
    induction n with
    | zero => intro i hi; simp at hi
    | succ n ih =>
      intro i hi
      simp only [repL]
      rw [List.getElem?_append]
      split
      · rename_i h; rw [Nat.mod_eq_of_lt h]
      · rename_i h
        have hi' : i < n * z.length + z.length := by rw [Nat.add_mul, Nat.one_mul] at hi; exact hi
        rw [ih (i - z.length) (by omega), ← Nat.mod_eq_sub_mod (by omega)]
  refine VRels.of_get (by simp [hlen, hzl]) fun i x hx => ?_
  have hi : i < n * z.length := by
    have := (List.getElem?_eq_some_iff.1 hx).1
    rwa [hlen] at this
  rw [hget n i hi] at hx
  obtain ⟨y, hy, hr⟩ := hz.get _ _ hx
  have hz0 : 0 < z.length := by
    rcases Nat.eq_zero_or_pos z.length with h0 | h0
    · rw [h0] at hi; simp at hi
    · exact h0
  refine ⟨y, ?_, hr⟩
  have hlt : i % zs.size < zs.size := Nat.mod_lt _ (by omega)
  have hy' : zs[i % zs.size] = y := by
    rw [← hzl] at hy
    rw [Array.getElem?_toList] at hy
    rw [Array.getElem?_eq_getElem hlt] at hy
    simpa using hy
  simp only [Array.toList_map, Array.toList_range, List.getElem?_map]
  rw [List.getElem?_range (by rw [hzl]; exact hi)]
  simp [getElem!_pos, hlt, hy']

theorem wrap_id {n : Int} (h1 : -9223372036854775808 ≤ n) (h2 : n < 9223372036854775808) : IntKind.i64.wrap n = n := by
  rw [IntKind.wrap_i64]; omega
theorem repL_length (z : List AV) (n : Nat) : (repL z n).length = n * z.length := by
  induction n with
  | zero => simp [repL]
  | succ n ih => simp [repL, ih, Nat.add_mul, Nat.add_comm]
theorem putL_length : ∀ (cs z : List AV) (off : Nat), (putL z off cs).length = z.length
  | [], z, off => rfl
  | c :: cs, z, off => by simp [putL, putL_length cs]
theorem fillA_length {e : Env} : ∀ {ps : List (Nat × Nat × Opd)} {z r : List AV}, fillA e ps z = some r → r.length = z.length
  | [], z, r, h => by simp [fillA] at h; rw [h]
  | (off, sz, x) :: ps, z, r, h => by
    simp only [fillA] at h
    split at h
    · rw [fillA_length h, putL_length]
    · simp at h
theorem cBuiltin_noA {b : Builtin} {ts : List TypeId} {xs : List Operand} {lo : LOp} : cBuiltin P b ts xs ≠ some (.a lo) := by
  intro h
  unfold cBuiltin at h
  (repeat' split at h) <;> first
    | (obtain ⟨_, _, e1⟩ := c1_some.1 h; simp at e1; done)
    | (obtain ⟨_, _, _, _, e1⟩ := c2_some.1 h; simp at e1; done)
    | (simp at h; done)
theorem newRow_run (el : TypeId) (c : Array Value) (w : World) : (newRow el c).run P w = .ok ⟨w.heap.size, 0, none⟩ { w with heap := w.heap.push (.cells c el), drawn := w.drawn } := by
  simp [newRow]
theorem VRel.ptr_add {id : S} {x y : Nat} : VRel (ι.add id (x, 0, y)) (.ptr id 0) (.pointer (some ⟨x, 0, none⟩)) := ⟨x, 0, y, by simp [Io.add], rfl⟩
theorem VRel.slice_add {id : S} {x y z n cap : Nat} {c : Cap} (hc : CapRel c n cap) (hq : cap * z ≤ y) : VRel (ι.add id (x, 0, y)) (.slice z id 0 n c) (.slice (some ⟨x, 0, none⟩) n cap) :=
  ⟨x, 0, y, _, cap, by simp [Io.add], rfl, hc, .inr ⟨rfl, by omega⟩⟩

/-- EACH OPERATION THAT MAKES MEMORY lays a new block under the new name. -/
theorem lop_run {O : Oper} {lo : LOp} (h : cOp P O.op = some (.a lo)) (he : EnvRel ι e a.tmps) (hH : HRel P ι H w) {id : S} (hid : ι id = none) {r : AV} {ob : Ob} (hr : lo.run e id = some (r, ob)) :
    Steps1 P ι H id id.succ w (execOp a.eval O) false r (H.set id ob) := by
  obtain ⟨dst, op, ty, pos, after, guard⟩ := O
  simp only at h
  have fin : ∀ (s : Sem Value) (o : Obj) (q : Nat) (u : Value) (d : Nat), execOp a.eval ⟨dst, op, ty, pos, after, guard⟩ = (do pure (.value (← s))) → s.run P w = .ok u { w with heap := w.heap.push o, drawn := d } →
      VRel (ι.add id (w.heap.size, 0, q)) r u → ORel P (ι.add id (w.heap.size, 0, q)) ob 0 q (some o) → Steps1 P ι H id id.succ w (execOp a.eval ⟨dst, op, ty, pos, after, guard⟩) false r (H.set id ob) := by
    intro s o q u d hs h1 h2 h3
    obtain ⟨k1, k2⟩ := alloc_step hH hid h3 d
    exact ⟨_, _, u, by rw [hs]; exact run_v h1, h2, k1, k2⟩
  have hle : ∀ x, ι.le (ι.add id x) := fun x => Io.le_add hid
  cases op <;> simp only [cOp] at h <;> (try (first
    | (obtain ⟨_, _, e1⟩ := c1_some.1 h; simp at e1; done)
    | (obtain ⟨_, _, _, _, e1⟩ := c2_some.1 h; simp at e1; done)
    | (obtain ⟨_, _, _, _, _, _, e1⟩ := c3_some.1 h; simp at e1; done)
    | (simp at h; done)))
  case alloc t =>
    split at h
    case h_2 => simp at h
    rename_i z hz
    simp at h; subst h
    simp only [LOp.run, Option.some.injEq, Prod.mk.injEq] at hr
    obtain ⟨rfl, rfl⟩ := hr
    obtain ⟨zv, h1, h2⟩ := run_zero (ι := ι) hz w
    refine fin _ _ zv.cells.size (.pointer (some ⟨w.heap.size, 0, none⟩)) w.drawn rfl ?_ VRel.ptr_add (cells_ORel' (el := t) (h2.mono (hle _)))
    simp [Instr.alloc, h1, newVar, newRow_run]
  case box t x =>
    obtain ⟨y, hy, e1⟩ := c1_some.1 h
    simp at e1; subst e1
    have hv := cOpd_rel he hy
    simp only [LOp.run, Option.some.injEq, Prod.mk.injEq] at hr
    obtain ⟨rfl, rfl⟩ := hr
    refine fin _ _ (a.eval x).cells.size (.pointer (some ⟨w.heap.size, 0, none⟩)) w.drawn rfl ?_ VRel.ptr_add (cells_ORel' (el := t) (hv.cells.mono (hle _)))
    simp [Instr.box, newVar, newRow_run]
  case build =>
    split at h
    · split at h
      · split at h <;> simp at h
      · simp at h
    · split at h
      · split at h <;> simp at h
      · simp at h
    · simp at h
  case buildSlice t n parts =>
    split at h
    case h_2 => simp at h
    rename_i el hu
    split at h
    case h_2 => simp at h
    rename_i s z hs hz
    split at h
    case h_2 => simp at h
    rename_i ps hps
    split at h
    case isFalse => simp at h
    rename_i hc
    obtain ⟨hc1, hc2, hc3⟩ := hc
    simp at h; subst h
    simp only [LOp.run] at hr
    split at hr
    case h_2 => simp at hr
    rename_i cs hcs
    simp only [Option.some.injEq, Prod.mk.injEq] at hr
    obtain ⟨rfl, rfl⟩ := hr
    obtain ⟨zv, h1, h2⟩ := run_zero (ι := ι) hz w
    have hzs : zv.cells.size = s := by have := h2.length; simp at this; omega
    have hlenz : (repL z n).length = n * z.length := repL_length z n
    have h2l : z.length = s := hc2
    have hz3 := map_mod n h2
    rw [hzs] at hz3
    obtain ⟨rs, f1, f2⟩ := fill_rel he hps hz3 hcs
    have hrl : rs.size = n * s := by
      have e1 := f2.length
      rw [Array.length_toList, fillA_length hcs, hlenz, h2l] at e1
      exact e1
    refine fin _ _ rs.size (.slice (some ⟨w.heap.size, 0, none⟩) n n) w.drawn rfl ?_ (VRel.slice_add ⟨rfl, Nat.le_refl _⟩ (by omega)) (cells_ORel' (el := el) (f2.mono (hle _)))
    have hgt : ¬ (n * s > 2 ^ 24) := by omega
    have hpm : (parts.map fun (i, x) => (i, a.eval x)).toList = parts.toList.map fun x => (x.1, a.eval x.2) := by simp
    by_cases h0 : n * s = 0
    · have hn : n = 0 := by rcases Nat.mul_eq_zero.1 h0 with h | h <;> omega
      subst hn
      have e0 : ((Array.range (0 * zv.cells.size)).map (fun i => zv.cells[i % zv.cells.size]!)) = #[] := by simp
      rw [hzs] at e0
      rw [e0] at f1
      simp only [Instr.buildSlice, Sem.run_bind, run_und hu, Result.andThen_ok, run_size hs, if_neg hgt, if_pos h0, Sem.run_pure]
      rw [hpm]
      have e1 : ∀ f : Nat → Value, (Array.range (0 * s)).map f = #[] := fun f => by simp
      rw [e1, f1]
      simp [newRow_run]
    · simp only [Instr.buildSlice, Sem.run_bind, run_und hu, Result.andThen_ok, run_size hs, if_neg hgt, if_neg h0, Sem.run_pure, h1]
      rw [hpm]
      simp only [hzs]
      rw [f1]
      simp [newRow_run]
  case insert =>
    split at h
    · split at h
      · obtain ⟨_, _, _, _, _, _, e1⟩ := c3_some.1 h; simp at e1
      · simp at h
    · simp at h
  case mapUpdate =>
    split at h
    · split at h
      · obtain ⟨_, _, _, _, _, _, e1⟩ := c3_some.1 h; simp at e1
      · simp at h
    · simp at h
  case load =>
    split at h
    · obtain ⟨_, _, e1⟩ := c1_some.1 h; simp at e1
    · obtain ⟨_, _, e1⟩ := c1_some.1 h; simp at e1
    · simp at h
  case store =>
    split at h
    · obtain ⟨_, _, _, _, e1⟩ := c2_some.1 h; simp at e1
    · simp at h
  case binOp bop _ _ _ _ =>
    cases bop <;> simp only [cOp] at h <;> (try (obtain ⟨_, _, _, _, e1⟩ := c2_some.1 h; simp at e1; done))
    · split at h
      · obtain ⟨_, _, _, _, e1⟩ := c2_some.1 h; simp at e1
      · obtain ⟨_, _, _, _, e1⟩ := c2_some.1 h; simp at e1
      · simp at h
    · split at h
      · obtain ⟨_, _, _, _, e1⟩ := c2_some.1 h; simp at e1
      · obtain ⟨_, _, _, _, e1⟩ := c2_some.1 h; simp at e1
      · simp at h
  case unOp uop _ _ =>
    cases uop <;> simp only [cOp] at h <;> (try (obtain ⟨_, _, e1⟩ := c1_some.1 h; simp at e1; done)) <;> simp at h
  case convert s d x =>
    split at h
    · obtain ⟨_, _, e1⟩ := c1_some.1 h; simp at e1
    · rename_i el hs hd
      split at h
      case h_2 => simp at h
      rename_i hel
      obtain ⟨y, hy, e1⟩ := c1_some.1 h
      simp at e1; subst e1
      have hv := cOpd_rel he hy
      simp only [LOp.run] at hr
      split at hr
      case h_2 => simp at hr
      rename_i str e2; rw [e2] at hv; simp only [VRel] at hv
      split at hr
      case isTrue => simp at hr
      rename_i hne
      simp only [Option.some.injEq, Prod.mk.injEq] at hr
      obtain ⟨rfl, rfl⟩ := hr
      have hcut : str.size ≤ (Question.appendCap str.size 0 el).cut (w.tape w.drawn (.appendCap str.size 0 el)) := by simp [Question.cut]
      generalize hcap : (Question.appendCap str.size 0 el).cut (w.tape w.drawn (.appendCap str.size 0 el)) = cap at hcut
      have hb : VRels (ι.add id (w.heap.size, 0, cap)) (str.data.toList.map fun b => AV.int .u8 b.toNat) (str.data.toList.map fun b => Value.int .u8 b.toNat) :=
        VRels.of_get (by simp) fun i x hx => by
          simp only [List.getElem?_map, Option.map_eq_some_iff] at hx ⊢
          obtain ⟨b, hb, rfl⟩ := hx
          exact ⟨_, ⟨b, hb, rfl⟩, rfl⟩
      have hsz : str.data.toList.length = str.size := Array.length_toList
      have ho := cells_ORel (P := P) hb (List.replicate (cap - str.size) (.int .u8 0)) (el := el) (fz := (cap, cap + 1)) (.inr ⟨by simp [hsz]; omega, fun e => hne (by
        have := congrArg List.length e
        simp only [List.length_map, List.length_nil] at this
        omega), fun x hx => by
        simp only [List.mem_map] at hx
        obtain ⟨b, _, rfl⟩ := hx
        rfl⟩)
      have hlen : ((str.data.toList.map fun b => Value.int .u8 b.toNat) ++ List.replicate (cap - str.size) (Value.int .u8 0)).length = cap := by
        simp only [List.length_append, List.length_map, List.length_replicate, hsz]; omega
      rw [hlen] at ho
      refine fin _ _ cap (.slice (some ⟨w.heap.size, 0, none⟩) str.size cap) (w.drawn + 1) rfl ?_ (VRel.slice_add ⟨Nat.le_refl _, hcut⟩ (by omega)) ho
      simp only [hv, convert, Sem.run_bind, run_und hs, run_und hd, run_und hel, Result.andThen_ok, Conv.stringToBytes, run_choose, Question.forced, Bool.false_eq_true, if_false, hcap, newRow_run, markStringish, run_shape, Sem.run_pure]
      have hsh : ∀ c : Array Value, ({ heap := w.heap.push (.cells c el), tape := w.tape, drawn := w.drawn + 1, os := w.os, output := w.output } : World).shape? w.heap.size = some (el, c.size) := by
        intro c; simp [World.shape?]
      have hc1 : (Array.map (fun b => Value.int IntKind.u8 ↑b.toNat) str.data ++ Array.replicate (cap - str.size) (Value.int IntKind.u8 0)).size = cap := by
        have : str.data.size = str.size := rfl
        simp [this]; omega
      have hc2 : (List.map (fun b => Value.int IntKind.u8 (b.toNat : Int)) str.data.toList ++ List.replicate (cap - str.size) (Value.int IntKind.u8 0)).toArray =
          Array.map (fun b => Value.int IntKind.u8 (b.toNat : Int)) str.data ++ Array.replicate (cap - str.size) (Value.int IntKind.u8 0) := by
        apply Array.ext'; simp
      simp only [hsh, hc1, hc2, run_freeze, Result.andThen_ok]
      congr 1
      simp only [World.freeze, Nat.one_ne_zero, if_false]
      congr 1
      apply Array.ext_getElem?
      intro i
      simp only [Array.getElem?_modify, Array.getElem?_push]
      by_cases hi : i = w.heap.size
      · subst hi; simp
      · have hi' : ¬ w.heap.size = i := fun h => hi h.symm
        simp [hi, hi']
    · split at h
      · obtain ⟨_, _, e1⟩ := c1_some.1 h; simp at e1
      · simp at h
    · simp at h
  case makeInterface =>
    split at h
    · simp at h
    · obtain ⟨_, _, e1⟩ := c1_some.1 h; simp at e1
    · simp at h
  case makeFunc fn _ _ =>
    cases fn <;> simp only [cOp] at h
    · split at h <;> simp at h
    all_goals simp at h
  case makeMap t rs =>
    cases rs <;> simp [cOp] at h
    subst h
    simp only [LOp.run, Option.some.injEq, Prod.mk.injEq] at hr
    obtain ⟨rfl, rfl⟩ := hr
    refine fin _ (.map #[] 0) 0 (.map (some w.heap.size)) w.drawn rfl ?_ ⟨w.heap.size, 0, by simp [Io.add], rfl⟩ ⟨#[], rfl, rfl⟩
    simp [Instr.makeMap]
  case makeSlice t l c =>
    split at h
    case h_2 => simp at h
    rename_i el hu
    split at h
    case h_2 => simp at h
    rename_i s b z hs hb hz
    split at h
    case isFalse => simp at h
    rename_i hc
    obtain ⟨l', c', hl, hcc, e1⟩ := c2_some.1 h
    simp at e1; subst e1
    have vl := cOpd_rel he hl
    have vc := cOpd_rel he hcc
    simp only [LOp.run] at hr
    split at hr
    case h_2 => simp at hr
    rename_i k1 nl k2 nc e2 e3
    rw [e2] at vl; rw [e3] at vc
    have vl := vl.int_inv
    have vc := vc.int_inv
    split at hr
    case isFalse => simp at hr
    rename_i hcond
    obtain ⟨q1, q2, q3, q4⟩ := hcond
    simp only [Option.some.injEq, Prod.mk.injEq] at hr
    obtain ⟨rfl, rfl⟩ := hr
    obtain ⟨zv, h1, h2⟩ := run_zero (ι := ι) hz w
    have hzs : zv.cells.size = s := by have := h2.length; simp at this; omega
    have hz3 := map_mod nc.toNat h2
    rw [hzs] at hz3
    obtain ⟨i, hi, hib⟩ : ∃ i, P.info? el = some i ∧ i.bytes = b := by
      unfold bytesT at hb
      split at hb
      · rename_i i hi; simp at hb; exact ⟨i, hi, hb⟩
      · simp at hb
    refine fin _ (.cells ((Array.range (nc.toNat * s)).map fun i => zv.cells[i % s]!) el) (nc.toNat * s) (.slice (some ⟨w.heap.size, 0, none⟩) nl.toNat nc.toNat) w.drawn rfl ?_ (VRel.slice_add ⟨rfl, by omega⟩ (Nat.le_refl _)) ?_
    · have hwl : IntKind.i64.wrap nl = nl := wrap_id (by omega) (by omega)
      have hwc : IntKind.i64.wrap nc = nc := wrap_id (by omega) (by omega)
      have hbytes : (b : Int) * nc ≤ 2 ^ 36 := by
        have e1 : (b : Int) * nc = ((nc.toNat * b : Nat) : Int) := by
          rw [Int.natCast_mul, Int.toNat_of_nonneg (by omega), Int.mul_comm]
        rw [e1]; exact_mod_cast q4
      have hbl : (b : Int) * nl ≤ 2 ^ 36 := Int.le_trans (Int.mul_le_mul_of_nonneg_left q2 (by omega)) hbytes
      simp only [Instr.makeSlice, Sem.run_bind, run_und hu, Result.andThen_ok, vl, vc, asInt, asIntOf, Sem.run_pure, run_ti hi, hib, hwl, hwc]
      rw [if_neg (by simp only [Bool.or_eq_true, decide_eq_true_eq, not_or]; omega)]
      simp only [Sem.run_bind, run_askRoom, Result.andThen_ok, run_size hs]
      by_cases h0 : nc.toNat * s = 0
      · rw [if_pos h0]
        have e1 : ∀ f : Nat → Value, (Array.range (nc.toNat * s)).map f = #[] := fun f => by simp [h0]
        simp [e1, newRow_run]
      · rw [if_neg h0]
        simp [h1, hzs, newRow_run]
    · have := cells_ORel' (P := P) (el := el) (hz3.mono (hle (w.heap.size, 0, nc.toNat * s)))
      simpa using this
  case slice =>
    split at h
    case h_2 => simp at h
    split at h
    · split at h <;> simp at h
    · split at h <;> simp at h
    · split at h <;> simp at h
    · simp at h
  case fieldAddr =>
    split at h
    · split at h
      · split at h
        · split at h
          · simp at h
          · obtain ⟨_, _, e1⟩ := c1_some.1 h; simp at e1
        · simp at h
      · simp at h
    · simp at h
  case field =>
    split at h
    · split at h
      · split at h
        · obtain ⟨_, _, e1⟩ := c1_some.1 h; simp at e1
        · simp at h
      · simp at h
    · simp at h
  case indexAddr =>
    split at h
    · split at h
      · obtain ⟨_, _, _, _, e1⟩ := c2_some.1 h; simp at e1
      · simp at h
    · split at h
      · obtain ⟨_, _, _, _, e1⟩ := c2_some.1 h; simp at e1
      · simp at h
    · simp at h
  case index =>
    split at h
    · split at h
      · obtain ⟨_, _, _, _, e1⟩ := c2_some.1 h; simp at e1
      · simp at h
    · obtain ⟨_, _, _, _, e1⟩ := c2_some.1 h; simp at e1
    · simp at h
  case lookup =>
    split at h
    · split at h
      · obtain ⟨_, _, _, _, e1⟩ := c2_some.1 h; simp at e1
      · simp at h
    · simp at h
  case mapEntry =>
    split at h
    · split at h
      · obtain ⟨_, _, _, _, e1⟩ := c2_some.1 h; simp at e1
      · simp at h
    · simp at h
  case call c =>
    split at h
    · split at h
      · split at h
        · simp at h
        · obtain ⟨_, _, e1⟩ := c1_some.1 h; simp at e1
      · simp at h
    · exact absurd h cBuiltin_noA
    · simp at h
end
end Go.Ab
