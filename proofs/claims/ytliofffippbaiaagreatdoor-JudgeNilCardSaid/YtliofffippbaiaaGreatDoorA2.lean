/- The operations that need no memory, one by one. -/
import Derived.Test.YtliofffippbaiaaGreatDoorA1
import Derived.Laws.StructEq
namespace Go.Ab
open Go
section
variable {P : Program} {ι : Io} {e : Env} {a : Act}

theorem VRel.int_inv {k : IntKind} {n : Int} {v : Value} (h : VRel ι (.int k n) v) : v = .int k n := h
theorem VRel.agg_inv {cs : List AV} {v : Value} (h : VRel ι (.agg cs) v) : ∃ vs, v = .agg vs ∧ VRels ι cs vs.toList := h

/-! putting parts into an aggregate -/
theorem put_rel : ∀ {cs : List AV} {l : List Value} (_ : VRels ι cs l) (off j : Nat) {z : List AV} {zs : Array Value} (_ : VRels ι z zs.toList),
    VRels ι (putL z (off + j) cs) ((l.zipIdx j).foldl (fun (cs : Array Value) (x : Value × Nat) => cs.setIfInBounds (off + x.2) x.1) zs).toList
  | [], _, h, off, j, z, zs, hz => by simp [VRels] at h; subst h; exact hz
  | c :: cs, _, ⟨v, vs, e, h1, h2⟩, off, j, z, zs, hz => by
    subst e
    simp only [putL, List.zipIdx_cons, List.foldl_cons]
    have := put_rel h2 off (j + 1) (z := z.set (off + j) c) (zs := zs.setIfInBounds (off + j) v) (by simpa using hz.set (off + j) h1)
    simpa [Nat.add_assoc] using this
theorem put_rel' {cs : List AV} {l : Array Value} (h : VRels ι cs l.toList) (off : Nat) {z : List AV} {zs : Array Value} (hz : VRels ι z zs.toList) :
    VRels ι (putL z off cs) (l.zipIdx.foldl (fun cs (c, j) => cs.setIfInBounds (off + j) c) zs).toList := by
  have := put_rel h off 0 hz
  rw [Nat.add_zero] at this
  rw [← Array.foldl_toList, Array.toList_zipIdx]
  exact this
theorem fill_rel {place : Nat → Option (Nat × Nat)} (he : EnvRel ι e a.tmps) : ∀ {parts : List (Nat × Operand)} {ps : List (Nat × Nat × Opd)} (_ : cParts place parts = some ps)
    {z r : List AV} {zs : Array Value} (_ : VRels ι z zs.toList) (_ : fillA e ps z = some r),
    ∃ rs, Instr.fill place zs (parts.map fun x => (x.1, a.eval x.2)) = some rs ∧ VRels ι r rs.toList
  | [], ps, h, z, r, zs, hz, hf => by
    simp [cParts] at h; subst h
    simp [fillA] at hf; subst hf
    exact ⟨zs, rfl, hz⟩
  | (i, x) :: parts, ps, h, z, r, zs, hz, hf => by
    simp only [cParts] at h
    split at h
    · rename_i off sz x' l hp hx hl
      simp at h; subst h
      simp only [fillA] at hf
      split at hf
      · rename_i hc
        have hv := cOpd_rel he hx
        have hcs := hv.cells
        have hlen := hcs.length
        have hzl := hz.length
        simp only [Array.length_toList] at hlen hzl
        obtain ⟨rs, h1, h2⟩ := fill_rel he hl (zs := (a.eval x).cells.zipIdx.foldl (fun cs (c, j) => cs.setIfInBounds (off + j) c) zs) (put_rel' hcs off hz) hf
        refine ⟨rs, ?_, h2⟩
        simp only [List.map_cons, Instr.fill, hp]
        rw [if_neg]
        · exact h1
        · simp only [Bool.or_eq_true, ne_eq, decide_eq_true_eq, not_or, Decidable.not_not]
          omega
      · simp at hf
    · simp at h

theorem run_places : ∀ (l : List Field), sizedF P l = true → ∀ (w : World),
    ∃ ps : List (Nat × Nat), (l.mapM fun (f : Field) => (do pure (f.offset, ← sizeOf f.type) : Sem (Nat × Nat))).run P w = .ok ps w ∧
      ∀ i : Nat, ps[i]? = (match l[i]? with
        | some f => match sizeT P f.type with
          | some s => some (f.offset, s)
          | none => none
        | none => none)
  | [], _, w => ⟨[], by simp, fun i => by simp⟩
  | f :: l, h, w => by
    simp only [sizedF, Bool.and_eq_true] at h
    obtain ⟨s, hs⟩ := Option.isSome_iff_exists.1 h.1
    obtain ⟨ps, h1, h2⟩ := run_places l h.2 w
    refine ⟨(f.offset, s) :: ps, by simp only [List.mapM_cons, Sem.run_bind, run_size hs, h1, Result.andThen_ok, Sem.run_pure], fun i => ?_⟩
    cases i with
    | zero => simp [hs]
    | succ i => simpa using h2 i

theorem build_struct {t : TypeId} {fs : Array Field} {z : List AV} {parts : Array (Nat × Operand)} {ps : List (Nat × Nat × Opd)} {r : List AV}
    (hu : P.underlying t = some (.struct fs)) (hz : zeroA P t = some z) (hp : cParts (fieldPl P fs) parts.toList = some ps) (hs : sizedF P fs.toList = true)
    (he : EnvRel ι e a.tmps) (hr : fillA e ps z = some r) (w : World) :
    ∃ v, (Instr.build t (parts.map fun (i, x) => (i, a.eval x))).run P w = .ok v w ∧ VRel ι (.agg r) v := by
  obtain ⟨zv, hz1, hz2⟩ := run_zero hz w
  obtain ⟨pl, h1, h2⟩ := run_places fs.toList hs w
  have hplace : (fun i => pl.toArray[i]?) = fieldPl P fs := by
    funext i
    unfold fieldPl
    simp only [List.getElem?_toArray, h2 i, Array.getElem?_toList]
    rfl
  obtain ⟨rs, h3, h4⟩ := fill_rel he hp hz2 hr
  refine ⟨.agg rs, ?_, ⟨rs, rfl, h4⟩⟩
  have hm : (fs.mapM fun (f : Field) => (do pure (f.offset, ← sizeOf f.type) : Sem (Nat × Nat))).run P w = .ok pl.toArray w := by
    rw [Array.mapM_eq_mapM_toList]
    simp only [Sem.run_map, h1, Result.andThen_ok]
  simp only [Instr.build, Sem.run_bind, hz1, Result.andThen_ok, run_und hu, hm]
  have : (parts.map fun (i, x) => (i, a.eval x)).toList = parts.toList.map fun x => (x.1, a.eval x.2) := by simp
  rw [this, hplace, h3]
  rfl
theorem build_array {t el : TypeId} {n s : Nat} {z : List AV} {parts : Array (Nat × Operand)} {ps : List (Nat × Nat × Opd)} {r : List AV}
    (hu : P.underlying t = some (.array n el)) (hz : zeroA P t = some z) (hs : sizeT P el = some s) (hp : cParts (fun i => some (i * s, s)) parts.toList = some ps)
    (he : EnvRel ι e a.tmps) (hr : fillA e ps z = some r) (w : World) :
    ∃ v, (Instr.build t (parts.map fun (i, x) => (i, a.eval x))).run P w = .ok v w ∧ VRel ι (.agg r) v := by
  obtain ⟨zv, hz1, hz2⟩ := run_zero hz w
  obtain ⟨rs, h3, h4⟩ := fill_rel he hp hz2 hr
  refine ⟨.agg rs, ?_, ⟨rs, rfl, h4⟩⟩
  simp only [Instr.build, Sem.run_bind, hz1, Result.andThen_ok, run_und hu, run_size hs]
  have : (parts.map fun (i, x) => (i, a.eval x)).toList = parts.toList.map fun x => (x.1, a.eval x.2) := by simp
  rw [this, h3]
  rfl

/-! equality -/
def FKof (P : Program) (t : TypeId) : FK → Prop
  | .b => P.underlying t = some .bool
  | .i => ∃ ik, P.underlying t = some (.int ik)
  | .s => P.underlying t = some .string
theorem eqS_run {k : FK} {x y : AV} {b : Bool} {v v' : Value} (h : eqS k x y = some b) (hx : VRel ι x v) (hy : VRel ι y v') {t : TypeId}
    (ht : FKof P t k) (d : Nat) (w : World) : (Op.equalIn (d + 1) t v v').run P w = .ok b w := by
  cases k <;> cases x <;> cases y <;> simp [eqS] at h <;> simp only [VRel] at hx hy <;> subst hx <;> subst hy
  · simp only [FKof] at ht; subst h
    simp [Op.equalIn, run_und ht]
  · obtain ⟨ik, ht⟩ := ht
    obtain ⟨hk, h⟩ := h
    subst hk; subst h
    simp [Op.equalIn, run_und ht]
  · simp only [FKof] at ht; subst h
    simp [Op.equalIn, run_und ht]
theorem flat_eq : ∀ (fs : List Field) (off : Nat) {ks : List FK} {xs ys : List AV} {vs ws : Array Value} {b : Bool}, flatF P off fs = some ks → VRels ι xs (vs.toList.drop off) → VRels ι ys (ws.toList.drop off) →
    eqL ks xs ys = some b → ∀ (d : Nat) (w : World), (Op.eqFields (d + 1) vs ws fs).run P w = .ok b w
  | [], off, ks, xs, ys, vs, ws, b, hf, hx, hy, he, d, w => by
    simp [flatF] at hf; subst hf
    cases xs <;> cases ys <;> simp [eqL] at he
    subst he; simp [Op.eqFields]
  | f :: fs, off, ks, xs, ys, vs, ws, b, hf, hx, hy, he, d, w => by
    simp only [flatF] at hf
    split at hf
    case isFalse => simp at hf
    rename_i hc
    simp only [Bool.and_eq_true, bne_iff_ne, ne_eq, beq_iff_eq] at hc
    obtain ⟨hn, hoff⟩ := hc
    have key : ∃ k l, flatF P (off + 1) fs = some l ∧ ks = k :: l ∧ FKof P f.type k := by
      split at hf
      · rename_i l h1 h2; simp at hf; exact ⟨.b, l, h2, hf.symm, h1⟩
      · rename_i ik l h1 h2; simp at hf; exact ⟨.i, l, h2, hf.symm, ik, h1⟩
      · rename_i l h1 h2; simp at hf; exact ⟨.s, l, h2, hf.symm, h1⟩
      · simp at hf
    obtain ⟨k, l, hl, rfl, hk⟩ := key
    cases xs with
    | nil => simp [eqL] at he
    | cons x xs =>
      cases ys with
      | nil => simp [eqL] at he
      | cons y ys =>
        simp only [eqL] at he
        split at he
        case h_2 => simp at he
        rename_i p q hp hq
        simp only [Option.some.injEq] at he; subst he
        subst hoff
        obtain ⟨v, vs', ev, hv, hvs⟩ := hx
        obtain ⟨u, us', eu, hu, hus⟩ := hy
        have gv : vs[f.offset]? = some v := by
          have := congrArg (·[0]?) ev
          simpa [List.getElem?_drop] using this
        have gu : ws[f.offset]? = some u := by
          have := congrArg (·[0]?) eu
          simpa [List.getElem?_drop] using this
        have dv : vs' = vs.toList.drop (f.offset + 1) := by
          rw [← List.tail_drop, ev]; rfl
        have du : us' = ws.toList.drop (f.offset + 1) := by
          rw [← List.tail_drop, eu]; rfl
        subst dv; subst du
        have ih := flat_eq fs (f.offset + 1) hl hvs hus hq d w
        have hagg : (isAgg f.type).run P w = .ok false w := by
          apply run_agg
          unfold isAggT
          cases k <;> simp only [FKof] at hk
          · simp [hk]
          · obtain ⟨ik, hk⟩ := hk; simp [hk]
          · simp [hk]
        have pv : (part f.type vs f.offset).run P w = .ok v w := by simp [part, hagg, gv]
        have pu : (part f.type ws f.offset).run P w = .ok u w := by simp [part, hagg, gu]
        have he := eqS_run hp hv hu hk d w
        simp only [Op.eqFields, hn, ne_eq, not_false_eq_true, if_true, Sem.run_bind, pv, pu, he, Result.andThen_ok]
        cases p
        · simp
        · simpa using ih
theorem VRel.slice_inv {z : Nat} {b : S} {o n : Nat} {c : Cap} {v : Value} (h : VRel ι (.slice z b o n c) v) : ∃ a cap, v = .slice (some a) n cap := by
  obtain ⟨_, _, _, a, cap, _, h, _⟩ := h; exact ⟨a, cap, h⟩
/-- a nil, or not, of a kind that is compared with nil alone -/
def NilK (k : EqK) (x : AV) (n : Bool) : Prop :=
  match k with
  | .ptr => if n then x = .nilptr else ∃ b o, x = .ptr b o
  | .slice => if n then x = .nilslice else ∃ z b o n c, x = .slice z b o n c
  | .map => if n then x = .nilmap else ∃ b, x = .map b
  | .func => if n then x = .nilfunc else ∃ f a c, x = .func f a c
  | _ => False
theorem eqA_inv {k : EqK} {x y : AV} {b : Bool} (h : eqA k x y = some b) :
    (∃ p q, k = .bool ∧ x = .bool p ∧ y = .bool q ∧ b = (p == q)) ∨ (∃ ks xs ys, k = .agg ks ∧ x = .agg xs ∧ y = .agg ys ∧ eqL ks xs ys = some b) ∨
    (∃ n m, NilK k x n ∧ NilK k y m ∧ (n = true ∨ m = true) ∧ b = (n && m)) := by
  unfold eqA at h
  split at h <;> (try (simp only [Option.some.injEq] at h))
  · exact .inl ⟨_, _, rfl, rfl, rfl, h.symm⟩
  · exact .inr (.inr ⟨true, true, rfl, rfl, .inl rfl, h.symm⟩)
  · exact .inr (.inr ⟨true, false, rfl, ⟨_, _, rfl⟩, .inl rfl, h.symm⟩)
  · exact .inr (.inr ⟨false, true, ⟨_, _, rfl⟩, rfl, .inr rfl, h.symm⟩)
  · exact .inr (.inr ⟨true, true, rfl, rfl, .inl rfl, h.symm⟩)
  · exact .inr (.inr ⟨true, false, rfl, ⟨_, _, _, _, _, rfl⟩, .inl rfl, h.symm⟩)
  · exact .inr (.inr ⟨false, true, ⟨_, _, _, _, _, rfl⟩, rfl, .inr rfl, h.symm⟩)
  · exact .inr (.inr ⟨true, true, rfl, rfl, .inl rfl, h.symm⟩)
  · exact .inr (.inr ⟨true, false, rfl, ⟨_, rfl⟩, .inl rfl, h.symm⟩)
  · exact .inr (.inr ⟨false, true, ⟨_, rfl⟩, rfl, .inr rfl, h.symm⟩)
  · exact .inr (.inr ⟨true, true, rfl, rfl, .inl rfl, h.symm⟩)
  · exact .inr (.inr ⟨true, false, rfl, ⟨_, _, _, rfl⟩, .inl rfl, h.symm⟩)
  · exact .inr (.inr ⟨false, true, ⟨_, _, _, rfl⟩, rfl, .inr rfl, h.symm⟩)
  · exact .inr (.inl ⟨_, _, _, rfl, rfl, rfl, h⟩)
  · simp at h
/-- what such a value looks like in the model -/
theorem NilK.val {k : EqK} {x : AV} {n : Bool} {v : Value} (h : NilK k x n) (hv : VRel ι x v) :
    (k = .ptr ∧ (if n then v = .pointer none else ∃ a, v = .pointer (some a))) ∨ (k = .slice ∧ (if n then v = .slice none 0 0 else ∃ a l c, v = .slice (some a) l c)) ∨
    (k = .map ∧ (if n then v = .map none else ∃ r, v = .map (some r))) ∨ (k = .func ∧ (if n then v = .nilFunc else ∃ f a c, v = .func f a c)) := by
  cases k <;> simp only [NilK] at h
  · left; cases n <;> simp only [Bool.false_eq_true, if_true, if_false] at h
    · obtain ⟨b, o, rfl⟩ := h; obtain ⟨_, _, _, _, rfl⟩ := hv; exact ⟨rfl, _, rfl⟩
    · subst h; exact ⟨rfl, hv⟩
  · right; left; cases n <;> simp only [Bool.false_eq_true, if_true, if_false] at h
    · obtain ⟨z, b, o, n, c, rfl⟩ := h; obtain ⟨_, _, rfl⟩ := hv.slice_inv; exact ⟨rfl, _, _, _, rfl⟩
    · subst h; exact ⟨rfl, hv⟩
  · right; right; left; cases n <;> simp only [Bool.false_eq_true, if_true, if_false] at h
    · obtain ⟨b, rfl⟩ := h; obtain ⟨_, _, _, rfl⟩ := hv; exact ⟨rfl, _, rfl⟩
    · subst h; exact ⟨rfl, hv⟩
  · right; right; right; cases n <;> simp only [Bool.false_eq_true, if_true, if_false] at h
    · obtain ⟨f, a, c, rfl⟩ := h; obtain ⟨_, _, rfl, _⟩ := hv; exact ⟨rfl, _, _, _, rfl⟩
    · subst h; exact ⟨rfl, hv⟩
theorem eqKOf_inv {k : EqK} {t : TypeId} (hk : eqKOf P t = some (some k)) :
    match k with
    | .bool => P.underlying t = some .bool
    | .ptr => ∃ e, P.underlying t = some (.pointer e)
    | .slice => ∃ e, P.underlying t = some (.slice e)
    | .map => ∃ a b, P.underlying t = some (.map a b)
    | .func => ∃ a b c, P.underlying t = some (.func a b c)
    | .agg ks => ∃ fs, P.underlying t = some (.struct fs) ∧ P.stoodInHeld t = false ∧ P.eqGuardType P.depth t = false ∧ flatF P 0 fs.toList = some ks := by
  unfold eqKOf at hk
  split at hk
  · rename_i hu; simp at hk; subst hk; exact hu
  · rename_i hu; simp at hk; subst hk; exact ⟨_, hu⟩
  · rename_i hu; simp at hk; subst hk; exact ⟨_, hu⟩
  · rename_i hu; simp at hk; subst hk; exact ⟨_, _, hu⟩
  · rename_i hu; simp at hk; subst hk; exact ⟨_, _, _, hu⟩
  · rename_i fs hu
    split at hk
    case isFalse => simp at hk
    rename_i hc
    simp only [Bool.and_eq_true, Bool.not_eq_true'] at hc
    split at hk
    case h_2 => simp at hk
    rename_i ks hks
    simp at hk; subst hk
    exact ⟨fs, hu, hc.1, hc.2, hks⟩
  · simp at hk
  · simp at hk
  · simp at hk
set_option maxHeartbeats 2000000 in
theorem equalIn_run {k : EqK} {t : TypeId} (hk : eqKOf P t = some (some k)) {x y : AV} {b : Bool} {v v' : Value} (h : eqA k x y = some b) (hx : VRel ι x v) (hy : VRel ι y v')
    (d : Nat) (w : World) : (Op.equalIn (d + 2) t v v').run P w = .ok b w := by
  have hk' := eqKOf_inv hk
  rcases eqA_inv h with ⟨p, q, rfl, rfl, rfl, rfl⟩ | ⟨ks, xs, ys, rfl, rfl, rfl, hl⟩ | ⟨n, m, hn, hm, hnm, rfl⟩
  · simp only [VRel] at hx hy; subst hx; subst hy
    simp only at hk'
    simp [Op.equalIn, run_und hk']
  · obtain ⟨fs, hu, h1, h2, h3⟩ := hk'
    obtain ⟨vs, rfl, hvs⟩ := hx.agg_inv
    obtain ⟨ws, rfl, hws⟩ := hy.agg_inv
    have hf : P.fieldsOf t = fs := by simp [Program.fieldsOf, hu]
    rw [run_equalIn_struct w (d + 1) t vs ws (by rw [hf]; exact hu) h1, hf]
    exact flat_eq fs.toList 0 h3 (by simpa using hvs) (by simpa using hws) hl d w
  · have gx := hn.val hx
    have gy := hm.val hy
    rcases gx with ⟨rfl, gx⟩ | ⟨rfl, gx⟩ | ⟨rfl, gx⟩ | ⟨rfl, gx⟩ <;> rcases gy with ⟨e, gy⟩ | ⟨e, gy⟩ | ⟨e, gy⟩ | ⟨e, gy⟩ <;> (try (simp at e; done)) <;> clear e <;>
      cases n <;> cases m <;> simp only [Bool.false_eq_true, if_true, if_false, or_self, or_true, true_or] at gx gy hnm
    · obtain ⟨el, hu⟩ := hk'; obtain ⟨a1, rfl⟩ := gx; subst gy; simp [Op.equalIn, run_und hu]
    · obtain ⟨el, hu⟩ := hk'; obtain ⟨a1, rfl⟩ := gy; subst gx; simp [Op.equalIn, run_und hu]
    · obtain ⟨el, hu⟩ := hk'; subst gx; subst gy; simp [Op.equalIn, run_und hu]
    · obtain ⟨el, hu⟩ := hk'; obtain ⟨a1, l1, c1, rfl⟩ := gx; subst gy; simp [Op.equalIn, run_und hu]
    · obtain ⟨el, hu⟩ := hk'; obtain ⟨a1, l1, c1, rfl⟩ := gy; subst gx; simp [Op.equalIn, run_und hu]
    · obtain ⟨el, hu⟩ := hk'; subst gx; subst gy; simp [Op.equalIn, run_und hu]
    · obtain ⟨_, _, hu⟩ := hk'; obtain ⟨a1, rfl⟩ := gx; subst gy; simp [Op.equalIn, run_und hu]
    · obtain ⟨_, _, hu⟩ := hk'; obtain ⟨a1, rfl⟩ := gy; subst gx; simp [Op.equalIn, run_und hu]
    · obtain ⟨_, _, hu⟩ := hk'; subst gx; subst gy; simp [Op.equalIn, run_und hu]
    · obtain ⟨_, _, _, hu⟩ := hk'; obtain ⟨a1, l1, c1, rfl⟩ := gx; subst gy; simp [Op.equalIn, run_und hu]
    · obtain ⟨_, _, _, hu⟩ := hk'; obtain ⟨a1, l1, c1, rfl⟩ := gy; subst gx; simp [Op.equalIn, run_und hu]
    · obtain ⟨_, _, _, hu⟩ := hk'; subst gx; subst gy; simp [Op.equalIn, run_und hu]
/-- a value that is compared by its type -/
def cmpV : Value → Bool
  | .bool _ | .pointer _ | .slice .. | .map _ | .func .. | .nilFunc | .agg _ => true
  | _ => false
theorem binOp_eql {v v' : Value} (h : cmpV v = true) (t : TypeId) : binOp .eql t v v' = (do pure (.bool (← Op.equal t v v'))) := by
  cases v <;> first | (simp [cmpV] at h; done) | (cases v' <;> rfl)
theorem binOp_neq {v v' : Value} (h : cmpV v = true) (t : TypeId) : binOp .neq t v v' = (do pure (.bool (!(← Op.equal t v v')))) := by
  cases v <;> first | (simp [cmpV] at h; done) | (cases v' <;> rfl)
theorem eql_fin {ng : Bool} {t : TypeId} {b : Bool} {v v' : Value} {w : World} (hc : cmpV v = true) (he : (Op.equalIn (9998 + 2) t v v').run P w = .ok b w) (p q : Operand)
    (hg : ∀ op, (eqGuard op t p q v v').run P w = .ok () w) :
    (do eqGuard (if ng then .neq else .eql) t p q v v'; binOp (if ng then .neq else .eql) t v v' : Sem Value).run P w = .ok (.bool (if ng then !b else b)) w := by
  rw [Sem.run_bind, hg, Result.andThen_ok]
  have he' : (Op.equal t v v').run P w = .ok b w := he
  cases ng
  · simp only [Bool.false_eq_true, if_false, binOp_eql hc, Sem.run_bind, he', Result.andThen_ok, Sem.run_pure]
  · simp only [if_true, binOp_neq hc, Sem.run_bind, he', Result.andThen_ok, Sem.run_pure]
theorem eql_run {ng : Bool} {k : EqK} {t : TypeId} (hk : eqKOf P t = some (some k)) {x y : AV} {b : Bool} {v v' : Value} (h : eqA k x y = some b)
    (hx : VRel ι x v) (hy : VRel ι y v') (p q : Operand) (w : World) :
    (do eqGuard (if ng then .neq else .eql) t p q v v'; binOp (if ng then .neq else .eql) t v v' : Sem Value).run P w = .ok (.bool (if ng then !b else b)) w := by
  have he := equalIn_run hk h hx hy 9998 w
  have hk' := eqKOf_inv hk
  rcases eqA_inv h with ⟨p, q, rfl, rfl, rfl, rfl⟩ | ⟨ks, xs, ys, rfl, rfl, rfl, hl⟩ | ⟨n, m, hn, hm, hnm, rfl⟩
  · simp only [VRel] at hx hy; subst hx; subst hy
    exact eql_fin rfl he _ _ fun op => eqGuard_run (by simp) (by simp) w
  · obtain ⟨fs, hu, h1, h2, h3⟩ := hk'
    obtain ⟨vs, rfl, hvs⟩ := hx.agg_inv
    obtain ⟨ws, rfl, hws⟩ := hy.agg_inv
    exact eql_fin rfl he _ _ fun op => run_eqGuard_agg _ _ _ _ _ _ _ h2
  · have gx := hn.val hx
    have key : cmpV v = true ∧ (∀ a, v ≠ .agg a) ∧ v ≠ .nilIface := by
      rcases gx with ⟨rfl, gx⟩ | ⟨rfl, gx⟩ | ⟨rfl, gx⟩ | ⟨rfl, gx⟩ <;> cases n <;> simp only [Bool.false_eq_true, if_true, if_false] at gx
      · obtain ⟨a1, rfl⟩ := gx; simp [cmpV]
      · subst gx; simp [cmpV]
      · obtain ⟨a1, l1, c1, rfl⟩ := gx; simp [cmpV]
      · subst gx; simp [cmpV]
      · obtain ⟨a1, rfl⟩ := gx; simp [cmpV]
      · subst gx; simp [cmpV]
      · obtain ⟨a1, l1, c1, rfl⟩ := gx; simp [cmpV]
      · subst gx; simp [cmpV]
    exact eql_fin key.1 he _ _ fun op => eqGuard_run key.2.1 key.2.2 w
end
end Go.Ab
