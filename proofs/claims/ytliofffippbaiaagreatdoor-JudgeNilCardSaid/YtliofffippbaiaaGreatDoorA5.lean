/- Names: an evaluation makes none outside its own. A region in the order of the text. -/
import Derived.Test.YtliofffippbaiaaGreatDoorA4
import Derived.Orders
set_option linter.unusedSimpArgs false
set_option linter.unusedVariables false
namespace Go.Ab
open Go

def Ext (H : Hp) (nx nx' : S) (H' : Hp) : Prop := nx.toNat ≤ nx'.toNat ∧ ∀ b : S, (b.toNat < nx.toNat ∨ nx'.toNat ≤ b.toNat) → H.get b = none → H'.get b = none
def CallWF (call : Caller) : Prop := ∀ t args nx H v nx' H', call t args nx H = .mk v nx' H' → Ext H nx nx' H'
theorem Ext.refl (H : Hp) (nx : S) : Ext H nx nx H := ⟨Nat.le_refl _, fun _ _ h => h⟩
theorem Ext.trans {H H1 H2 : Hp} {a b c : S} (h : Ext H a b H1) (h' : Ext H1 b c H2) : Ext H a c H2 :=
  ⟨Nat.le_trans h.1 h'.1, fun x hx hn => by
    have a1 := h.1; have a2 := h'.1
    exact h'.2 x (by omega) (h.2 x (by omega) hn)⟩
theorem Ext.wf {H H' : Hp} {a b : S} (h : Ext H a b H') (hw : Wf H a) : Wf H' b := fun c hc => h.2 c (.inr hc) (hw c (by have := h.1; omega))
theorem Ext.same (H : Hp) (nx : S) : Ext H nx nx.succ H := ⟨by rw [S.toNat_succ]; omega, fun _ _ h => h⟩
theorem Ext.new {H : Hp} {nx : S} (ob : Ob) : Ext H nx nx.succ (H.set nx ob) := ⟨by rw [S.toNat_succ]; omega, fun b hb hn => by
  rw [Tr.get_set, if_neg (succ_between hb)]; exact hn⟩
theorem Ext.old {H : Hp} {nx nx' : S} {b : S} {o : Ob} (h : H.get b = some o) (ob : Ob) (hn : nx.toNat ≤ nx'.toNat) : Ext H nx nx' (H.set b ob) := ⟨hn, fun c _ hc => by
  rw [Tr.get_set, if_neg]; · exact hc
  rintro rfl; rw [h] at hc; simp at hc⟩
theorem Ext.old' {H : Hp} {nx : S} {b : S} {o : Ob} (h : H.get b = some o) (ob : Ob) : Ext H nx nx.succ (H.set b ob) := Ext.old h ob (by rw [S.toNat_succ]; omega)
theorem Ext.cells {H : Hp} {nx : S} {b : S} {c : List AV} (h : cellsOf H b = some c) (ob : Ob) : Ext H nx nx.succ (H.set b ob) := Ext.old' (cellsOf_get h) ob
theorem Ext.delnew {H : Hp} {nx : S} (b : S) (ob : Ob) : Ext H nx nx.succ ((H.del b).set nx ob) := ⟨by rw [S.toNat_succ]; omega, fun c hc hn => by
  rw [Tr.get_set, if_neg (succ_between hc), Tr.get_del]; split
  · rfl
  · exact hn⟩
theorem appendIn_ext {z : Nat} {b : S} {o n : Nat} {c : Cap} {m : Nat} {ys : List AV} {H H' : Hp} {v : AV} {nx : S} (h : appendIn z b o n c m ys H = some (v, H')) : Ext H nx nx.succ H' := by
  unfold appendIn at h
  repeat' split at h
  all_goals simp at h
  obtain ⟨_, rfl⟩ := h
  exact Ext.cells (by assumption) _
theorem appendA_ext {size bytes : Nat} {x : AV} {m : Nat} {ys : List AV} {H H' : Hp} {v : AV} {nx : S} (h : appendA size bytes x m ys nx H = some (v, H')) : Ext H nx nx.succ H' := by
  unfold appendA at h
  repeat' split at h
  all_goals first
    | (simp at h; done)
    | exact appendIn_ext h
    | (simp at h; obtain ⟨_, rfl⟩ := h; first | exact Ext.same .. | exact Ext.new _ | exact Ext.delnew ..)
theorem eop_ext {e : Env} {o : EOp} {H H' : Hp} {v : AV} {nx : S} (h : o.run e nx H = some (v, H')) : Ext H nx nx.succ H' := by
  cases o <;> simp only [EOp.run, copyA] at h <;> (repeat' split at h)
  all_goals first
    | (simp at h; done)
    | exact appendA_ext h
    | (simp at h; obtain ⟨_, rfl⟩ := h; first | exact Ext.same .. | exact Ext.new _ | exact Ext.delnew .. | exact Ext.cells (by assumption) _ | exact Ext.old' (by assumption) _)
section
variable {call : Caller}
theorem callvA_ext (hc : CallWF call) {f : AV} {args : List AV} {nx nx' : S} {H H' : Hp} {v : AV} (h : callvA call f args nx H = .mk v nx' H') : Ext H nx nx' H' := by
  unfold callvA at h
  split at h
  · exact hc _ _ _ _ _ _ _ h
  · exact hc _ _ _ _ _ _ _ h
  · simp at h
theorem act_ext (hc : CallWF call) {a : Act1} {e : Env} {nx nx' : S} {H H' : Hp} {v : AV} (h : a.run call e nx H = .mk v nx' H') : Ext H nx nx' H' := by
  cases a with
  | p o => simp only [Act1.run] at h; split at h <;> simp at h; obtain ⟨_, rfl, rfl⟩ := h; exact Ext.refl ..
  | r o => simp only [Act1.run] at h; split at h <;> simp at h; obtain ⟨_, rfl, rfl⟩ := h; exact Ext.refl ..
  | a o => simp only [Act1.run] at h; split at h <;> simp at h; obtain ⟨_, rfl, rfl⟩ := h; exact Ext.new _
  | e o => simp only [Act1.run] at h; split at h <;> simp at h; rename_i h1; obtain ⟨_, rfl, rfl⟩ := h; exact eop_ext h1
  | call f args => exact hc _ _ _ _ _ _ _ h
  | callv f args => exact callvA_ext hc h
theorem runOps_ext (hc : CallWF call) : ∀ {l : List Ins} {e e' : Env} {nx nx' : S} {H H' : Hp} {x : X}, runOps call l e nx H = .mk x e' nx' H' → x = .norm ∧ Ext H nx nx' H'
  | [], e, e', nx, nx', H, H', x, h => by
    simp [runOps] at h; obtain ⟨rfl, _, rfl, rfl⟩ := h; exact ⟨rfl, Ext.refl ..⟩
  | i :: l, e, e', nx, nx', H, H', x, h => by
    simp only [runOps] at h
    split at h
    · exact runOps_ext hc h
    · split at h
      · rename_i h1
        obtain ⟨g1, g2⟩ := runOps_ext hc h
        exact ⟨g1, (act_ext hc h1).trans g2⟩
      · simp at h
end

section
variable {P : Program} {fn : FuncId} {rd : Option Nat} {df : List Deferred} {k : List Item} {cs : List Frame} {call : Caller}

theorem cInss_some {N : Nat} {ops : Array Oper} : ∀ {os : List Oper} {l : List Ins}, cInss P N ops os = some l → l.length = os.length ∧ ∀ (i : Nat) (o : Oper), os[i]? = some o → ∃ I, l[i]? = some I ∧ cIns P N ops o = some I
  | [], l, h => by simp [cInss] at h; subst h; simp
  | o :: os, l, h => by
    simp only [cInss] at h
    split at h
    case h_2 => simp at h
    rename_i a l' ha hl
    simp at h; subst h
    obtain ⟨h1, h2⟩ := cInss_some hl
    refine ⟨by simp [h1], fun i o' ho => ?_⟩
    cases i with
    | zero => simp at ho; subst ho; exact ⟨a, rfl, ha⟩
    | succ i => simp at ho; simpa using h2 i o' ho
theorem cInss_dst {N : Nat} {ops : Array Oper} {l : List Ins} (h : cInss P N ops ops.toList = some l) {d : Tmp} (hd : ∃ j : Nat, (ops[j]?).bind (fun o : Oper => o.dst) = some d) : d < N := by
  obtain ⟨j, hj⟩ := hd
  cases ho : ops[j]? with
  | none => rw [ho] at hj; simp at hj
  | some o =>
    rw [ho] at hj
    simp at hj
    obtain ⟨I, _, hI⟩ := (cInss_some h).2 j o (by simpa using ho)
    have := (cIns_some hI).2.1
    rw [hj] at this
    exact this.1

/-- the slot of an operation's result -/
theorem slot_rel {N : Nat} {ops : Array Oper} {o : Oper} {I : Ins} (h : cIns P N ops o = some I) {ι : Io} {e : Env} {tm : Array Value} (he : EnvRel ι e tm) (hN : tm.size = N) {v : AV} {u : Value} (hv : VRel ι v u) :
    EnvRel ι (putD e I.dst v) (tmPut tm o.dst u) ∧ (tmPut tm o.dst u).size = N := by
  obtain ⟨_, h2, _⟩ := cIns_some h
  cases ho : o.dst with
  | none => rw [ho] at h2; simp only at h2; rw [h2]; exact ⟨he, hN⟩
  | some d =>
    rw [ho] at h2
    simp only at h2
    rw [h2.2]
    exact ⟨EnvRel.set he (by rw [hN]; exact h2.1) hv, by simp [tmPut, hN]⟩

theorem ops_run {ops : Array Oper} {N : Nat} (hN : ∀ d : Tmp, (∃ j : Nat, (ops[j]?).bind (fun o : Oper => o.dst) = some d) → d < N) (hc : CallOK P call) (hw : CallWF call) :
    ∀ (os : List Oper) (i : Nat) (l : List Ins), (∀ j o, os[j]? = some o → ops[i + j]? = some o) → cInss P N ops os = some l → ∀ {e e' : Env} {nx nx' : S} {H H' : Hp} {x : X} {ι : Io} {tm : Array Value} {w : World},
      runOps call l e nx H = .mk x e' nx' H' → EnvRel ι e tm → tm.size = N → HRel P ι H w → Wf H nx → FreshI ι nx nx' →
      ∃ ι' w' tm', Go.Steps P (lone (Fr fn rd tm df (.inRegion ops (List.range' i os.length) :: k)) cs w) (lone (Fr fn rd tm' df (.inRegion ops [] :: k)) cs w') ∧
        tm'.size = N ∧ EnvRel ι' e' tm' ∧ HRel P ι' H' w' ∧ St ι H nx nx' w ι' H' w'
  | [], i, l, _, hl, e, e', nx, nx', H, H', x, ι, tm, w, hr, he, hs, hH, hwf, hf => by
    simp [cInss] at hl; subst hl
    simp [runOps] at hr; obtain ⟨_, rfl, rfl, rfl⟩ := hr
    exact ⟨ι, w, tm, .refl _ _, hs, he, hH, St.refl ..⟩
  | o :: os, i, l, hos, hl, e, e', nx, nx', H, H', x, ι, tm, w, hr, he, hs, hH, hwf, hf => by
    simp only [cInss] at hl
    split at hl
    case h_2 => simp at hl
    rename_i I l' hI hl'
    simp at hl; subst hl
    have ho : ops[i]? = some o := by simpa using hos 0 o rfl
    have hos' : ∀ j o', os[j]? = some o' → ops[(i + 1) + j]? = some o' := fun j o' hj => by
      have := hos (j + 1) o' (by simpa using hj)
      rwa [show i + (j + 1) = i + 1 + j by omega] at this
    have hwe := wanted_eq (tm := tm) hI he (fun d hd => hs ▸ hN d hd)
    simp only [runOps] at hr
    rw [List.length_cons, List.range'_succ]
    split at hr
    · rename_i hwn
      rw [hwn] at hwe
      obtain ⟨q1, q2⟩ := slot_rel hI he hs (v := undefA) (u := undef) VRel.undef
      obtain ⟨ι', w', tm', g1, g2, g3, g4, g5⟩ := ops_run hN hc hw os (i + 1) l' hos' hl' hr q1 q2 hH hwf hf
      exact ⟨ι', w', tm', .trans (s_opNot ho hwe) g1, g2, g3, g4, g5⟩
    · rename_i hwn
      rw [hwn] at hwe
      split at hr
      case h_2 => simp at hr
      rename_i v nx1 H1 h1
      have x1 := act_ext hw h1
      have x2 := (runOps_ext hw hr).2
      obtain ⟨ι1, w1, u, g1, g2, g3, g4⟩ := act_step (fn := fn) (rd := rd) (df := df) (k := k) (cs := cs) (rest := List.range' (i + 1) os.length) ho hI he hH (fun _ => hwf) (fun b h1 h2 => hf b h1 (by have := x2.1; omega)) hc hwe h1
      obtain ⟨q1, q2⟩ := slot_rel hI (he.mono g4.le) hs g2
      obtain ⟨ι', w', tm', k1, k2, k3, k4, k5⟩ := ops_run hN hc hw os (i + 1) l' hos' hl' hr q1 q2 g3 (x1.wf hwf) (fun b h1 h2 => by
        rw [g4.out b (by omega)]; exact hf b (by have := x1.1; omega) h2)
      exact ⟨ι', w', tm', .trans g1 k1, k2, k3, k4, g4.trans k5⟩
end
end Go.Ab
/- Regions that draw their order, part 1: what an operation reads; memories with more blocks. -/
set_option linter.unusedSimpArgs false
set_option linter.unusedVariables false
namespace Go.Ab
open Go

/-! the same value -/
theorem ba_eq {a b : ByteArray} (h : (a == b) = true) : a = b := by
  cases a; cases b
  rename_i x y
  have : (x == y) = true := h
  rw [eq_of_beq this]
mutual
theorem AV.same_eq : ∀ {a b : AV}, a.same b = true → a = b
  | .bool a, .bool b, h => by simp [AV.same] at h; simp [h]
  | .int k a, .int k' b, h => by simp [AV.same] at h; simp [h]
  | .str a, .str b, h => by simp only [AV.same] at h; rw [ba_eq h]
  | .ptr a b, .ptr c d, h => by
    simp [AV.same] at h; rw [S.beq_eq h.1, h.2]
  | .nilptr, .nilptr, h => rfl
  | .slice y a b c d, .slice z e f g i, h => by
    simp [AV.same] at h
    obtain ⟨⟨⟨⟨h1, h2⟩, h3⟩, h4⟩, h5⟩ := h
    rw [h1, S.beq_eq h2, h3, h4, h5]
  | .nilslice, .nilslice, h => rfl
  | .map a, .map b, h => by simp [AV.same] at h; rw [S.beq_eq h]
  | .nilmap, .nilmap, h => rfl
  | .func f a b, .func g c d, h => by
    simp [AV.same] at h
    rw [h.1.1, sameL_eq h.1.2, sameL_eq h.2]
  | .yield a, .yield b, h => by simp [AV.same] at h; rw [S.beq_eq h]
  | .nilfunc, .nilfunc, h => rfl
  | .iface t a, .iface u b, h => by
    simp [AV.same] at h; rw [h.1, AV.same_eq h.2]
  | .niliface, .niliface, h => rfl
  | .agg a, .agg b, h => by simp [AV.same] at h; rw [sameL_eq h]
  | .tup a, .tup b, h => by simp [AV.same] at h; rw [sameL_eq h]
theorem sameL_eq : ∀ {a b : List AV}, sameL a b = true → a = b
  | [], [], h => rfl
  | a :: al, b :: bl, h => by
    simp [sameL] at h; rw [AV.same_eq h.1, sameL_eq h.2]
end

/-! what an operation reads -/
def Ag (e e1 : Env) (l : List S) : Prop := ∀ s ∈ l, at_ e s = at_ e1 s
theorem ev_ag {e e1 : Env} {x : Opd} (h : Ag e e1 x.slots) : x.ev e = x.ev e1 := by
  cases x with
  | t s => exact h s (by simp [Opd.slots])
  | c v => rfl
theorem Ag.l {e e1 : Env} {a b : List S} (h : Ag e e1 (a ++ b)) : Ag e e1 a := fun s hs => h s (by simp [hs])
theorem Ag.r {e e1 : Env} {a b : List S} (h : Ag e e1 (a ++ b)) : Ag e e1 b := fun s hs => h s (by simp [hs])
theorem evo_ag {e e1 : Env} {x : Option Opd} (h : Ag e e1 (slotsO x)) : Opd.evo e x = Opd.evo e1 x := by
  cases x with
  | none => rfl
  | some x => simp [Opd.evo, ev_ag (x := x) h]
theorem evL_ag {e e1 : Env} : ∀ {x : List Opd}, Ag e e1 (slotsL x) → evL e x = evL e1 x
  | [], _ => rfl
  | x :: xs, h => by
    simp only [slotsL, List.flatMap_cons] at h
    simp only [evL, ev_ag h.l, evL_ag (x := xs) h.r]
theorem fillA_ag {e e1 : Env} : ∀ {x : List (Nat × Nat × Opd)} {z : List AV}, Ag e e1 (x.flatMap fun p => p.2.2.slots) → fillA e x z = fillA e1 x z
  | [], z, _ => rfl
  | (o, s, x) :: xs, z, h => by
    simp only [List.flatMap_cons] at h
    simp only [fillA, ev_ag h.l]
    rw [fillA_ag (x := xs) h.r]
theorem pop_ag {e e1 : Env} {o : POp} (h : Ag e e1 o.slots) : o.run e = o.run e1 := by
  cases o <;> simp only [POp.slots] at h <;> simp only [POp.run]
  case mv x => rw [ev_ag h]
  case pick => rw [ev_ag h.l.l, ev_ag h.l.r, ev_ag h.r]
  case bin => rw [ev_ag h.l, ev_ag h.r]
  case eql => rw [ev_ag h.l, ev_ag h.r]
  case not => rw [ev_ag h]
  case neg => rw [ev_ag h]
  case conv => rw [ev_ag h]
  case nilck => rw [ev_ag h]
  case fieldA => rw [ev_ag h]
  case indexA => rw [ev_ag h.l, ev_ag h.r]
  case indexArr => rw [ev_ag h.l, ev_ag h.r]
  case index => rw [ev_ag h.l, ev_ag h.r]
  case indexS => rw [ev_ag h.l, ev_ag h.r]
  case field => rw [ev_ag h]
  case build => rw [fillA_ag h]
  case mkfn => rw [evL_ag h.l, evL_ag h.r]
  case ext => rw [ev_ag h]
  case len s x => cases s <;> simp only [POp.run] <;> rw [ev_ag h]
  case cap => rw [ev_ag h]
  case slice => rw [ev_ag h.l.l.l, evo_ag h.l.l.r, evo_ag h.l.r, evo_ag h.r]
  case sliceS => rw [ev_ag h.l.l, evo_ag h.l.r, evo_ag h.r]
  case mki => rw [ev_ag h]
  case max => rw [ev_ag h.l, evL_ag h.r]
  case min => rw [ev_ag h.l, evL_ag h.r]
theorem rop_ag {e e1 : Env} {o : ROp} {H : Hp} (h : Ag e e1 o.slots) : o.run e H = o.run e1 H := by
  cases o <;> simp only [ROp.slots] at h <;> simp only [ROp.run]
  case load1 => rw [ev_ag h]
  case loadN => rw [ev_ag h]
  case lookup => rw [ev_ag h.l, ev_ag h.r]
  case lenM => rw [ev_ag h]
  case b2s => rw [ev_ag h]
  case sliceA => rw [ev_ag h.l.l.l, evo_ag h.l.l.r, evo_ag h.l.r, evo_ag h.r]
theorem lop_ag {e e1 : Env} {o : LOp} {id : S} (h : Ag e e1 o.slots) : o.run e id = o.run e1 id := by
  cases o <;> simp only [LOp.slots] at h <;> simp only [LOp.run]
  case box => rw [ev_ag h]
  case bslice => rw [fillA_ag h]
  case mkslice => rw [ev_ag h.l, ev_ag h.r]
  case s2b => rw [ev_ag h]
theorem eop_ag {e e1 : Env} {o : EOp} {id : S} {H : Hp} (h : Ag e e1 o.slots) : o.run e id H = o.run e1 id H := by
  cases o <;> simp only [EOp.slots] at h <;> simp only [EOp.run]
  case store => rw [ev_ag h.l, ev_ag h.r]
  case append => rw [ev_ag h.l, ev_ag h.r]
  case appendz => rw [ev_ag h.l, ev_ag h.r]
  case copy => rw [ev_ag h.l, ev_ag h.r]
  case mapset => rw [ev_ag h.l.l, ev_ag h.l.r, ev_ag h.r]
  case mapent => rw [ev_ag h.l, ev_ag h.r]
  case entset => rw [ev_ag h.l.l, ev_ag h.l.r, ev_ag h.r]
  case delete => rw [ev_ag h.l, ev_ag h.r]
  case clear => rw [ev_ag h]
theorem act_ag {e e1 : Env} {a : Act1} {call : Caller} {nx : S} {H : Hp} (h : Ag e e1 a.slots) : a.run call e nx H = a.run call e1 nx H := by
  cases a <;> simp only [Act1.slots] at h <;> simp only [Act1.run]
  case p => rw [pop_ag h]
  case r => rw [rop_ag h]
  case a => rw [lop_ag h]
  case e => rw [eop_ag h]
  case call => rw [evL_ag h]
  case callv => rw [ev_ag h.l, evL_ag h.r]
theorem wanted_ag {e e1 : Env} {g : Option (S × Bool)} (h : Ag e e1 (match g with | some (s, _) => [s] | none => [])) : wantedA e g = wantedA e1 g := by
  cases g with
  | none => rfl
  | some g => simp only [wantedA]; rw [h g.1 (by simp)]

/-! memories with more blocks -/
def addL (H : Hp) (xs : List (S × Ob)) : Hp := xs.foldl (fun h x => h.set x.1 x.2) H
theorem addL_cons (H : Hp) (x : S × Ob) (xs : List (S × Ob)) : addL H (x :: xs) = addL (H.set x.1 x.2) xs := rfl
theorem addL_not : ∀ {xs : List (S × Ob)} {H : Hp} {b : S}, (∀ x ∈ xs, x.1 ≠ b) → (addL H xs).get b = H.get b
  | [], H, b, _ => rfl
  | x :: xs, H, b, h => by
    rw [addL_cons, addL_not (fun y hy => h y (by simp [hy])), Tr.get_set, if_neg (fun e => h x (by simp) e.symm)]
theorem addL_mem : ∀ {xs : List (S × Ob)} {H H' : Hp} {b : S}, (∃ x ∈ xs, x.1 = b) → (addL H xs).get b = (addL H' xs).get b
  | [], H, H', b, h => by simp at h
  | x :: xs, H, H', b, h => by
    rw [addL_cons, addL_cons]
    by_cases h1 : ∃ y ∈ xs, y.1 = b
    · exact addL_mem h1
    · have h2 : ∀ y ∈ xs, y.1 ≠ b := fun y hy e => h1 ⟨y, hy, e⟩
      rw [addL_not h2, addL_not h2, Tr.get_set, Tr.get_set]
      obtain ⟨y, hy, e⟩ := h
      simp at hy
      rcases hy with rfl | hy
      · simp [e]
      · exact absurd e (h2 y hy)
section
variable {P : Program}
theorem HRel.sub {ι : Io} {H H1 : Hp} {w : World} (h : HRel P ι H w) (hs : ∀ b ob, H1.get b = some ob → ι b ≠ none → H.get b = some ob) : HRel P ι H1 w where
  obj b ob hb r p q hi := h.obj b ob (hs b ob hb (by rw [hi]; simp)) r p q hi
  inj b ob b' ob' hb hb' r p q p' q' hi hi' := h.inj b ob b' ob' (hs b ob hb (by rw [hi]; simp)) (hs b' ob' hb' (by rw [hi']; simp)) r p q p' q' hi hi'
theorem HRel.congr {ι : Io} {H H1 : Hp} {w : World} (h : HRel P ι H w) (hs : ∀ b, H1.get b = H.get b) : HRel P ι H1 w := h.sub fun b ob hb _ => by rw [← hs]; exact hb
theorem St.congr {ι ι' : Io} {H H1 H' H1' : Hp} {a b : S} {w w' : World} (h : St ι H a b w ι' H' w') (hs : ∀ b, H1.get b = H.get b) (hs' : ∀ b, H1'.get b = H'.get b) : St ι H1 a b w ι' H1' w' where
  tape := h.tape
  os := h.os
  output := h.output
  size := h.size
  le := h.le
  out := h.out
  keep r hr hn := h.keep r hr fun b ob p q hb => hn b ob p q (by rw [hs]; exact hb)
  sub b ob r p q hb hi hr := by
    rw [hs'] at hb
    obtain ⟨b0, ob0, p0, q0, h1, h2⟩ := h.sub b ob r p q hb hi hr
    exact ⟨b0, ob0, p0, q0, by rw [hs]; exact h1, h2⟩
  pres b hb hn := by rw [hs, hs']; exact h.pres b hb hn
  nxle := h.nxle
theorem St.wide {ι ι' : Io} {H H' : Hp} {a b c d : S} {w w' : World} (h : St ι H a b w ι' H' w') (h1 : c.toNat ≤ a.toNat) (h2 : b.toNat ≤ d.toNat) : St ι H c d w ι' H' w' where
  tape := h.tape
  os := h.os
  output := h.output
  size := h.size
  le := h.le
  out b hb := h.out b (by omega)
  keep := h.keep
  sub := h.sub
  pres b hb := h.pres b (by omega)
  nxle := by have := h.nxle; omega
theorem St.trans' {ι ι1 ι2 : Io} {H H1 H2 : Hp} {a b : S} {w w1 w2 : World} (h : St ι H a b w ι1 H1 w1) (h' : St ι1 H1 a b w1 ι2 H2 w2) : St ι H a b w ι2 H2 w2 where
  tape := h'.tape.trans h.tape
  os := h'.os.trans h.os
  output := h'.output.trans h.output
  size := Nat.le_trans h.size h'.size
  le := Io.le_trans h.le h'.le
  out b hb := by rw [h'.out b hb, h.out b hb]
  keep r hr hn := by
    rw [h'.keep r (Nat.lt_of_lt_of_le hr h.size) fun b ob p q hb hi => ?_, h.keep r hr hn]
    obtain ⟨b0, ob0, p0, q0, e1, e2⟩ := h.sub b ob r p q hb hi hr
    exact hn b0 ob0 p0 q0 e1 e2
  sub b ob r p q hb hi hr := by
    obtain ⟨b1, ob1, p1, q1, e1, e2⟩ := h'.sub b ob r p q hb hi (Nat.lt_of_lt_of_le hr h.size)
    exact h.sub b1 ob1 r p1 q1 e1 e2 hr
  pres b hb hn := by rw [h'.pres b hb (by rw [h.out b hb]; exact hn), h.pres b hb hn]
  nxle := h.nxle
/-- a step beside which more blocks lie -/
theorem frame_add {ι ι' : Io} {H H' : Hp} {a a' : S} {w w' : World} {xs : List (S × Ob)} (hx : ∀ x ∈ xs, (x.1.toNat < a.toNat ∨ a'.toNat ≤ x.1.toNat) ∧ H.get x.1 = none)
    (hT : HRel P ι (addL H xs) w) (hH' : HRel P ι' H' w') (hst : St ι H a a' w ι' H' w') : HRel P ι' (addL H' xs) w' ∧ St ι (addL H xs) a a' w ι' (addL H' xs) w' := by
  have hsub : ∀ b ob, H.get b = some ob → (addL H xs).get b = some ob := fun b ob hb => by
    rw [addL_not]; · exact hb
    intro x hx' e
    have := (hx x hx').2
    rw [e, hb] at this; simp at this
  have hmem : ∀ b, (∃ x ∈ xs, x.1 = b) ∨ (∀ x ∈ xs, x.1 ≠ b) := fun b => by
    by_cases h : ∃ x ∈ xs, x.1 = b
    · exact .inl h
    · exact .inr fun x hx e => h ⟨x, hx, e⟩
  have hio : ∀ b, (∃ x ∈ xs, x.1 = b) → ι' b = ι b := fun b ⟨x, h1, h2⟩ => by
    have := (hx x h1).1; rw [h2] at this; exact hst.out b this
  have hno : ∀ b, (∃ x ∈ xs, x.1 = b) → H.get b = none := fun b ⟨x, h1, h2⟩ => by
    have := (hx x h1).2; rw [h2] at this; exact this
  refine ⟨⟨fun b ob hb r p q hi => ?_, fun b ob b' ob' hb hb' r p q p' q' hi hi' => ?_⟩, ⟨hst.tape, hst.os, hst.output, hst.size, hst.le, hst.out, fun r hr hn => hst.keep r hr fun b ob p q hb => hn b ob p q (hsub b ob hb), fun b ob r p q hb hi hr => ?_, fun b hb hn => ?_, hst.nxle⟩⟩
  · rcases hmem b with h | h
    · rw [addL_mem (H' := H) h] at hb
      have hi0 := hi; rw [hio b h] at hi0
      have h1 := hT.obj b ob hb r p q hi0
      have h2 := hT.lt hb hi0
      rw [hst.keep r h2 fun b0 ob0 p0 q0 g1 g2 => ?_]
      · exact h1.mono hst.le
      · have := hT.inj b ob b0 ob0 hb (hsub _ _ g1) r p q p0 q0 hi0 g2
        subst this
        rw [hno b h] at g1; simp at g1
    · rw [addL_not h] at hb; exact hH'.obj b ob hb r p q hi
  · have mixed : ∀ b ob b' ob', (∃ x ∈ xs, x.1 = b) → (∀ x ∈ xs, x.1 ≠ b') → (addL H' xs).get b = some ob → (addL H' xs).get b' = some ob' → ∀ r p q p' q', ι' b = some (r, p, q) → ι' b' = some (r, p', q') → False := by
      intro b ob b' ob' h h' hb hb' r p q p' q' hi hi'
      rw [addL_mem (H' := H) h] at hb
      rw [hio b h] at hi
      rw [addL_not h'] at hb'
      have h2 := hT.lt hb hi
      obtain ⟨b0, ob0, p0, q0, g1, g2⟩ := hst.sub b' ob' r p' q' hb' hi' h2
      have := hT.inj b ob b0 ob0 hb (hsub _ _ g1) r p q p0 q0 hi g2
      subst this
      rw [hno b h] at g1; simp at g1
    rcases hmem b with h | h <;> rcases hmem b' with h' | h'
    · rw [addL_mem (H' := H) h] at hb
      rw [addL_mem (H' := H) h'] at hb'
      rw [hio b h] at hi
      rw [hio b' h'] at hi'
      exact hT.inj b ob b' ob' hb hb' r p q p' q' hi hi'
    · exact (mixed b ob b' ob' h h' hb hb' r p q p' q' hi hi').elim
    · exact (mixed b' ob' b ob h' h hb' hb r p' q' p q hi' hi).elim
    · rw [addL_not h] at hb
      rw [addL_not h'] at hb'
      exact hH'.inj b ob b' ob' hb hb' r p q p' q' hi hi'
  · rcases hmem b with h | h
    · rw [addL_mem (H' := H) h] at hb
      rw [hio b h] at hi
      exact ⟨b, ob, p, q, hb, hi⟩
    · rw [addL_not h] at hb
      obtain ⟨b0, ob0, p0, q0, g1, g2⟩ := hst.sub b ob r p q hb hi hr
      exact ⟨b0, ob0, p0, q0, hsub _ _ g1, g2⟩
  · rcases hmem b with h | h
    · exact addL_mem h
    · rw [addL_not h, addL_not h]; exact hst.pres b hb hn
end
end Go.Ab
/- Regions that draw their order, part 2: the order as it is drawn; the run in the text's order as a table. -/
set_option linter.unusedSimpArgs false
set_option linter.unusedVariables false
namespace Go.Ab
open Go
section
variable {P : Program} {fn : FuncId} {rd : Option Nat} {df : List Deferred} {k : List Item} {cs : List Frame}

theorem ready_mem {ops : Array Oper} {listed : Array Bool} {i : Nat} : i ∈ Region.ready .any ops listed ↔ i < ops.size ∧ listed.getD i true = false ∧ ∃ o, ops[i]? = some o ∧ ∀ e ∈ o.after, Region.binds .any e = true → listed.getD e.on false = true := by
  unfold Region.ready
  simp only [List.mem_filter, List.mem_range, Bool.and_eq_true, Bool.not_eq_true']
  constructor
  · rintro ⟨h1, h2, h3⟩
    refine ⟨h1, h2, ?_⟩
    rw [Array.getElem?_eq_getElem h1] at h3 ⊢
    refine ⟨_, rfl, ?_⟩
    simp at h3
    intro e he hb
    obtain ⟨j, hj, rfl⟩ := Array.mem_iff_getElem.1 he
    rcases h3 j hj with h4 | h4
    · rw [hb] at h4; simp at h4
    · simpa using h4
  · rintro ⟨h1, h2, o, ho, h3⟩
    refine ⟨h1, h2, ?_⟩
    rw [ho]
    simp
    intro j hj
    by_cases hb : Region.binds .any o.after[j] = true
    · right; simpa using h3 _ (Array.getElem_mem hj) hb
    · left; simpa using hb
theorem go_steps {ops : Array Oper} {Inv : Array Bool → Array Value → World → Io → Prop}
    (hstep : ∀ listed tm w ι i o rest, Inv listed tm w ι → ops[i]? = some o → listed.getD i true = false → (∀ e ∈ o.after, Region.binds .any e = true → listed.getD e.on false = true) →
      ∃ tm' w' ι', Go.Steps P (lone (Fr fn rd tm df (.inRegion ops (i :: rest) :: k)) cs w) (lone (Fr fn rd tm' df (.inRegion ops rest :: k)) cs w') ∧ Inv (listed.setIfInBounds i true) tm' w' ι')
    (hpre : ∀ i o, ops[i]? = some o → ∀ e ∈ o.after, Region.binds .any e = true → e.on < i) :
    ∀ (fuel t : Nat) (listed : Array Bool) (tm : Array Value) (w : World) (ι : Io), Inv listed tm w ι → listed.size = ops.size → listed.toList.count false ≤ fuel →
      ∃ tm' w' ι' listed', Go.Steps P (lone (Fr fn rd tm df (.inRegion ops (Region.linearise.go .any ops fuel t listed []) :: k)) cs w) (lone (Fr fn rd tm' df (.inRegion ops [] :: k)) cs w') ∧ Inv listed' tm' w' ι' ∧
        listed'.size = ops.size ∧ ∀ i, i < ops.size → listed'.getD i true = true := by
  have hall : ∀ listed : Array Bool, listed.size = ops.size → Region.ready .any ops listed = [] → ∀ i, i < ops.size → listed.getD i true = true := by
    intro listed hs hr i
    induction i using Nat.strongRecOn with
    | ind i ih =>
      intro hi
      cases hl : listed.getD i true with
      | true => rfl
      | false =>
        exfalso
        have : i ∈ Region.ready .any ops listed := by
          refine ready_mem.2 ⟨hi, hl, ops[i], Array.getElem?_eq_getElem hi, fun e he hb => ?_⟩
          have h1 := hpre i _ (Array.getElem?_eq_getElem hi) e he hb
          have h2 := ih e.on h1 (by omega)
          have hlt : e.on < listed.size := by omega
          simpa [Array.getD, hlt] using h2
        rw [hr] at this; simp at this
  intro fuel
  induction fuel with
  | zero =>
    intro t listed tm w ι hI hs hc
    refine ⟨tm, w, ι, listed, .refl _ _, hI, hs, fun i hi => ?_⟩
    cases hl : listed.getD i true with
    | true => rfl
    | false =>
      exfalso
      have hlt : i < listed.size := by omega
      have : listed[i] = false := by simpa [Array.getD, hlt] using hl
      have hm : false ∈ listed.toList := by rw [← this]; simp
      have := List.count_pos_iff.2 hm
      omega
  | succ fuel ih =>
    intro t listed tm w ι hI hs hc
    simp only [Region.linearise.go]
    change ∃ tm' w' ι' listed', Go.Steps P (lone (Fr fn rd tm df (.inRegion ops (match (Region.ready .any ops listed)[t % (Region.ready .any ops listed).length]? with
      | some i => Region.linearise.go .any ops fuel (t / (Region.ready .any ops listed).length) (listed.setIfInBounds i true) [i]
      | none => [].reverse) :: k)) cs w) _ ∧ _
    cases hi : (Region.ready .any ops listed)[t % (Region.ready .any ops listed).length]? with
    | none =>
      have hnil : Region.ready .any ops listed = [] := by
        cases hr : Region.ready .any ops listed with
        | nil => rfl
        | cons x xs =>
          rw [hr] at hi
          have hlt : t % (x :: xs).length < (x :: xs).length := Nat.mod_lt _ (by simp)
          simp at hi
          simp at hlt
          omega
      exact ⟨tm, w, ι, listed, .refl _ _, hI, hs, hall listed hs hnil⟩
    | some i =>
      simp only []
      rw [linearise_go_acc, List.reverse_singleton, List.singleton_append]
      obtain ⟨h1, h2, o, ho, h3⟩ := ready_mem.1 (List.mem_of_getElem? hi)
      obtain ⟨tm1, w1, ι1, g1, g2⟩ := hstep listed tm w ι i o (Region.linearise.go .any ops fuel (t / (Region.ready .any ops listed).length) (listed.setIfInBounds i true) []) hI ho h2 h3
      have hlt : i < listed.size := by omega
      have hfi : listed[i] = false := by simpa [Array.getD, hlt] using h2
      obtain ⟨tm', w', ι', l', k1, k2, k3⟩ := ih (t / (Region.ready .any ops listed).length) (listed.setIfInBounds i true) tm1 w1 ι1 g2 (by simp [hs]) (by
        have hlt' : i < listed.toList.length := by simpa using hlt
        have this' := List.count_set (a := true) (b := false) (l := listed.toList) hlt'
        have e1 : (listed.toList[i] == false) = true := by simp [hfi]
        have hm : false ∈ listed.toList := by rw [← hfi]; simp
        have := List.count_pos_iff.2 hm
        rw [Array.toList_setIfInBounds, this', if_pos e1, if_neg (by simp)]
        omega)
      exact ⟨tm', w', ι', l', .trans g1 k1, k2, k3⟩
end

/-! the run in the order of the text, as a table -/
structure Trc (call : Caller) (l : List Ins) (E : Nat → Env) (M : Nat → S) (Hs : Nat → Hp) (V : Nat → AV) : Prop where
  put : ∀ i I, l[i]? = some I → E (i + 1) = putD (E i) I.dst (V i)
  no : ∀ i I, l[i]? = some I → wantedA (E i) I.guard = false → V i = undefA ∧ M (i + 1) = M i ∧ Hs (i + 1) = Hs i
  yes : ∀ i I, l[i]? = some I → wantedA (E i) I.guard = true → I.act.run call (E i) (M i) (Hs i) = .mk (V i) (M (i + 1)) (Hs (i + 1))
def shift {α : Type} (x : α) (f : Nat → α) : Nat → α
  | 0 => x
  | n + 1 => f n
theorem effs_cons (I : Ins) (l : List Ins) : effs (I :: l) = (if isEff I.act then [0] else []) ++ (effs l).map (· + 1) := by
  unfold effs
  rw [List.length_cons, List.range_succ_eq_map, List.filter_cons]
  have : (List.filter (fun i => match (I :: l)[i]? with | some x => isEff x.act | none => false) (List.map Nat.succ (List.range l.length))) =
      List.map (· + 1) (List.filter (fun i => match l[i]? with | some x => isEff x.act | none => false) (List.range l.length)) := by
    rw [List.filter_map]
    rfl
  by_cases h : isEff I.act = true
  · simp only [h, if_true]
    exact (if_pos h).trans (congrArg (List.cons 0) this)
  · simp only [h]
    exact (if_neg h).trans this
theorem trc_ex {call : Caller} : ∀ {l : List Ins} {e e' : Env} {nx nx' : S} {H H' : Hp} {x : X}, runOps call l e nx H = .mk x e' nx' H' →
    ∃ E M Hs V, Trc call l E M Hs V ∧ E 0 = e ∧ M 0 = nx ∧ Hs 0 = H ∧ E l.length = e' ∧ M l.length = nx' ∧ Hs l.length = H' ∧ snaps call l e nx H = (effs l ++ [l.length]).map Hs
  | [], e, e', nx, nx', H, H', x, h => by
    simp [runOps] at h; obtain ⟨_, rfl, rfl, rfl⟩ := h
    exact ⟨fun _ => e, fun _ => nx, fun _ => H, fun _ => undefA, ⟨by simp, by simp, by simp⟩, rfl, rfl, rfl, rfl, rfl, rfl, by simp [snaps, effs]⟩
  | I :: l, e, e', nx, nx', H, H', x, h => by
    simp only [runOps] at h
    have main : ∀ (v : AV) (nx1 : S) (H1 : Hp), runOps call l (putD e I.dst v) nx1 H1 = .mk x e' nx' H' → (wantedA e I.guard = false → v = undefA ∧ nx1 = nx ∧ H1 = H) →
        (wantedA e I.guard = true → I.act.run call e nx H = .mk v nx1 H1) → snaps call (I :: l) e nx H = (if isEff I.act then [H] else []) ++ snaps call l (putD e I.dst v) nx1 H1 →
        ∃ E M Hs V, Trc call (I :: l) E M Hs V ∧ E 0 = e ∧ M 0 = nx ∧ Hs 0 = H ∧ E (I :: l).length = e' ∧ M (I :: l).length = nx' ∧ Hs (I :: l).length = H' ∧ snaps call (I :: l) e nx H = (effs (I :: l) ++ [(I :: l).length]).map Hs := by
      intro v nx1 H1 hr h1 h2 h3
      obtain ⟨E, M, Hs, V, ht, a1, a2, a3, a4, a5, a6, a7⟩ := trc_ex hr
      refine ⟨shift e E, shift nx M, shift H Hs, shift v V, ⟨fun i J hJ => ?_, fun i J hJ hw => ?_, fun i J hJ hw => ?_⟩, rfl, rfl, rfl, a4, a5, a6, ?_⟩
      · cases i with
        | zero => simp at hJ; subst hJ; exact a1
        | succ i => exact ht.put i J (by simpa using hJ)
      · cases i with
        | zero =>
          simp at hJ; subst hJ
          obtain ⟨b1, b2, b3⟩ := h1 hw
          exact ⟨b1, a2.trans b2, a3.trans b3⟩
        | succ i => exact ht.no i J (by simpa using hJ) hw
      · cases i with
        | zero =>
          simp at hJ; subst hJ
          have := h2 hw
          simp only [shift, a2, a3]; exact this
        | succ i => exact ht.yes i J (by simpa using hJ) hw
      · rw [h3, a7, effs_cons]
        simp only [List.map_append, List.append_assoc, List.map_map, List.length_cons]
        congr 1
        split <;> rfl
    split at h
    · rename_i hw
      refine main undefA nx H h (fun _ => ⟨rfl, rfl, rfl⟩) (fun h2 => by rw [hw] at h2; simp at h2) ?_
      simp only [snaps, hw]
      split <;> rfl
    · rename_i hw
      split at h
      case h_2 => simp at h
      rename_i v nx1 H1 h1
      refine main v nx1 H1 h (fun h2 => by rw [hw] at h2; simp at h2) (fun _ => h1) ?_
      simp only [snaps, hw, h1]
      split <;> rfl
end Go.Ab
/- Regions that draw their order, part 3: whatever is drawn, it comes to what the text's order comes to. -/
set_option linter.unusedSimpArgs false
set_option linter.unusedVariables false
namespace Go.Ab
open Go

theorem okAnc_some {os : List Oper} {A : List Nat} (h : okAnc os A = true) {i : Nat} {o : Oper} (ho : os[i]? = some o) :
    (∀ e ∈ o.after, Region.binds .any e = true → e.on < i) ∧ ∀ j, j < os.length → (A.getD i 0).testBit j = true → ∃ e ∈ o.after, Region.binds .any e = true ∧ (e.on = j ∨ (A.getD e.on 0).testBit j = true) := by
  have hi : i < os.length := (List.getElem?_eq_some_iff.1 ho).1
  unfold okAnc at h
  rw [List.all_eq_true] at h
  have := h i (List.mem_range.2 hi)
  rw [ho] at this
  cases hA : A[i]? with
  | none => rw [hA] at this; simp at this
  | some m =>
    rw [hA] at this
    simp only [Bool.and_eq_true] at this
    obtain ⟨h1, h2⟩ := this
    have hm : A.getD i 0 = m := by simp [List.getD, hA]
    refine ⟨fun e he hb => ?_, fun j hj ht => ?_⟩
    · rw [List.all_eq_true] at h1
      have := h1 e.on (by
        unfold pre
        exact List.mem_map.2 ⟨e, List.mem_filter.2 ⟨by simpa using he, hb⟩, rfl⟩)
      simpa using this
    · rw [List.all_eq_true] at h2
      have := h2 j (List.mem_range.2 hj)
      rw [hm] at ht
      rw [ht] at this
      simp only [Bool.not_true, Bool.false_or, Bool.or_eq_true, List.any_eq_true] at this
      rcases this with h3 | ⟨x, hx, h3⟩
      · have h3' : j ∈ pre o := by simpa using h3
        unfold pre at h3'
        obtain ⟨e, he, rfl⟩ := List.mem_map.1 h3'
        obtain ⟨g1, g2⟩ := List.mem_filter.1 he
        exact ⟨e, by simpa using g1, g2, .inl rfl⟩
      · unfold pre at hx
        obtain ⟨e, he, rfl⟩ := List.mem_map.1 hx
        obtain ⟨g1, g2⟩ := List.mem_filter.1 he
        exact ⟨e, by simpa using g1, g2, .inr h3⟩
theorem anc_lt {ops : Array Oper} {A : List Nat} (h : okAnc ops.toList A = true) (i : Nat) : ∀ j, i < ops.size → j < ops.size → (A.getD i 0).testBit j = true → j < i := by
  induction i using Nat.strongRecOn with
  | ind i ih =>
    intro j hi hj ht
    obtain ⟨h1, h2⟩ := okAnc_some h (i := i) (o := ops[i]) (by simp [hi])
    obtain ⟨e, he, hb, h3⟩ := h2 j (by simpa using hj) ht
    have h4 := h1 e he hb
    rcases h3 with rfl | h3
    · exact h4
    · have := ih e.on h4 j (by omega) hj h3
      omega
/-- what lies before is done -/
theorem anc_done {ops : Array Oper} {A : List Nat} (h : okAnc ops.toList A = true) {listed : Array Bool} (hs : listed.size = ops.size)
    (hcl : ∀ i o, ops[i]? = some o → listed.getD i true = true → ∀ e ∈ o.after, Region.binds .any e = true → listed.getD e.on false = true) (i : Nat) :
    ∀ j, i < ops.size → j < ops.size → (∀ o, ops[i]? = some o → ∀ e ∈ o.after, Region.binds .any e = true → listed.getD e.on false = true) → (A.getD i 0).testBit j = true → listed.getD j true = true := by
  have cv : ∀ j, j < ops.size → listed.getD j false = true → listed.getD j true = true := fun j hj h => by
    have hlt : j < listed.size := by omega
    simpa [Array.getD, hlt] using h
  induction i using Nat.strongRecOn with
  | ind i ih =>
    intro j hi hj hr ht
    obtain ⟨h1, h2⟩ := okAnc_some h (i := i) (o := ops[i]) (by simp [hi])
    obtain ⟨e, he, hb, h3⟩ := h2 j (by simpa using hj) ht
    have h4 := h1 e he hb
    have h5 := cv e.on (by omega) (hr _ (Array.getElem?_eq_getElem hi) e he hb)
    rcases h3 with rfl | h3
    · exact h5
    · exact ih e.on h4 j (by omega) hj (fun o ho => hcl e.on o ho h5) h3
theorem okSlots_some {l : List Ins} {A : List Nat} (h : okSlots l A = true) {i j : Nat} {x y : Ins} (hx : l[i]? = some x) (hy : l[j]? = some y) {d : S} (hd : y.dst = some d) :
    (i ≠ j → x.dst ≠ some d) ∧ (d ∈ x.slots → (A.getD i 0).testBit j = true ∨ (isRd x.act = false ∧ (i = j ∨ (A.getD j 0).testBit i = true))) := by
  have hi : i < l.length := (List.getElem?_eq_some_iff.1 hx).1
  have hj : j < l.length := (List.getElem?_eq_some_iff.1 hy).1
  unfold okSlots at h
  rw [List.all_eq_true] at h
  have := h i (List.mem_range.2 hi)
  rw [List.all_eq_true] at this
  have := this j (List.mem_range.2 hj)
  rw [hx, hy] at this
  simp only [hd] at this
  simp only [Bool.and_eq_true, Bool.or_eq_true, Bool.not_eq_true', beq_iff_eq, bne_iff_ne] at this
  obtain ⟨h1, h2⟩ := this
  refine ⟨fun hn => ?_, fun hm => ?_⟩
  · rcases h1 with h1 | h1
    · exact absurd h1 hn
    · exact h1
  · have hc : x.slots.contains d = true := by simpa using hm
    rcases h2 with (h2 | h2) | h2
    · rw [hc] at h2; simp at h2
    · exact .inl h2
    · exact .inr h2
theorem mem_effs {l : List Ins} {m : Nat} : m ∈ effs l ↔ ∃ I, l[m]? = some I ∧ isEff I.act = true := by
  unfold effs
  rw [List.mem_filter, List.mem_range]
  constructor
  · rintro ⟨h1, h2⟩
    rw [List.getElem?_eq_getElem h1] at h2
    exact ⟨_, List.getElem?_eq_getElem h1, h2⟩
  · rintro ⟨I, h1, h2⟩
    refine ⟨(List.getElem?_eq_some_iff.1 h1).1, ?_⟩
    rw [h1]; exact h2
theorem okChain_some {l : List Ins} {A : List Nat} (h : okChain l A = true) {i j : Nat} (hi : i ∈ effs l) (hj : j ∈ effs l) (hlt : i < j) : (A.getD j 0).testBit i = true := by
  unfold okChain at h
  rw [List.all_eq_true] at h
  have := h i hi
  rw [List.all_eq_true] at this
  have := this j hj
  simp only [Bool.or_eq_true, decide_eq_true_iff] at this
  rcases this with h1 | h1
  · omega
  · exact h1
theorem chkOk_some {e : Env} {hs : List Hp} : ∀ {cs : List (Ins × List Nat)}, chkOk e hs cs = true → ∀ {I : Ins} {js : List Nat}, (I, js) ∈ cs → wantedA e I.guard = true →
    ∃ o d, I.act = .r o ∧ I.dst = some d ∧ ∀ j ∈ js, ∃ h, hs[j]? = some h ∧ o.run e h = some (at_ e d)
  | [], _, I, js, hm, _ => by simp at hm
  | (I', js') :: cs, h, I, js, hm, hw => by
    simp only [chkOk, Bool.and_eq_true] at h
    simp only [List.mem_cons] at hm
    rcases hm with hm | hm
    · simp only [Prod.mk.injEq] at hm
      obtain ⟨rfl, rfl⟩ := hm
      have h1 := h.1
      rw [hw] at h1
      simp only at h1
      split at h1
      case h_2 => simp at h1
      rename_i o d ho hd
      refine ⟨o, d, ho, hd, fun j hj => ?_⟩
      rw [List.all_eq_true] at h1
      have h2 := h1 j hj
      split at h2
      case h_2 => simp at h2
      rename_i hh hhj
      split at h2
      case h_2 => simp at h2
      rename_i v hv
      exact ⟨hh, hhj, by rw [hv, AV.same_eq h2]⟩
    · exact chkOk_some h.2 hm hw

/-! the table's slots -/
section
variable {call : Caller} {l : List Ins} {E : Nat → Env} {M : Nat → S} {Hs : Nat → Hp} {V : Nat → AV}
theorem at_putD (e : Env) (d : Option S) (v : AV) (s : S) : at_ (putD e d v) s = if d = some s then v else at_ e s := by
  cases d with
  | none => simp [putD]
  | some d =>
    simp only [putD, at_set, Option.some.injEq]
    by_cases h : s = d
    · subst h; simp
    · rw [if_neg h, if_neg (fun e => h e.symm)]
theorem E_not (ht : Trc call l E M Hs V) {d : S} : ∀ i, i ≤ l.length → (∀ j y, j < i → l[j]? = some y → y.dst ≠ some d) → at_ (E i) d = at_ (E 0) d
  | 0, _, _ => rfl
  | i + 1, hi, h => by
    have hg : l[i]? = some l[i] := List.getElem?_eq_getElem (by omega)
    rw [ht.put i _ hg, at_putD, if_neg (h i _ (by omega) hg)]
    exact E_not ht i (by omega) fun j y hj => h j y (by omega)
theorem E_dst (ht : Trc call l E M Hs V) {A : List Nat} (hs : okSlots l A = true) {d : S} {j : Nat} {y : Ins} (hy : l[j]? = some y) (hd : y.dst = some d) : ∀ i, i ≤ l.length → j < i → at_ (E i) d = V j
  | 0, _, h => by omega
  | i + 1, hi, h => by
    have hg : l[i]? = some l[i] := List.getElem?_eq_getElem (by omega)
    rw [ht.put i _ hg, at_putD]
    by_cases e : i = j
    · subst e
      rw [hg] at hy; simp at hy
      rw [hy, if_pos hd]
    · rw [if_neg ((okSlots_some hs hg hy hd).1 e)]
      exact E_dst ht hs hy hd i (by omega) (by omega)

/-! the memory with the blocks that come later -/
def obAt (l : List Ins) (E : Nat → Env) (M : Nat → S) (m : Nat) : Option (S × Ob) := match l[m]? with
  | some I => if wantedA (E m) I.guard = true then (match I.act with
      | .a o => (o.run (E m) (M m)).map fun p => (M m, p.2)
      | _ => none) else none
  | none => none
def Xs (l : List Ins) (E : Nat → Env) (M : Nat → S) : Nat → Nat → List (S × Ob)
  | 0, _ => []
  | k + 1, i => (obAt l E M i).toList ++ Xs l E M k (i + 1)
def Xf (l : List Ins) (E : Nat → Env) (M : Nat → S) (i : Nat) : List (S × Ob) := Xs l E M (l.length - i) i
def Tf (l : List Ins) (E : Nat → Env) (M : Nat → S) (Hs : Nat → Hp) (i : Nat) : Hp := addL (Hs i) (Xf l E M i)
theorem Xf_succ {i : Nat} (hi : i < l.length) : Xf l E M i = (obAt l E M i).toList ++ Xf l E M (i + 1) := by
  unfold Xf
  rw [show l.length - i = (l.length - (i + 1)) + 1 by omega]
  rfl
theorem M_mono (ht : Trc call l E M Hs V) (hc : CallWF call) {i : Nat} (hi : i < l.length) : Ext (Hs i) (M i) (M (i + 1)) (Hs (i + 1)) := by
  have hg : l[i]? = some l[i] := List.getElem?_eq_getElem hi
  cases hw : wantedA (E i) l[i].guard with
  | false => obtain ⟨_, h1, h2⟩ := ht.no i _ hg hw; rw [h1, h2]; exact Ext.refl ..
  | true => exact act_ext hc (ht.yes i _ hg hw)
theorem M_le (ht : Trc call l E M Hs V) (hc : CallWF call) {i : Nat} : ∀ {j : Nat}, i ≤ j → j ≤ l.length → (M i).toNat ≤ (M j).toNat := by
  intro j hij hj
  induction j with
  | zero => have : i = 0 := by omega
            subst this; exact Nat.le_refl _
  | succ j ih =>
    by_cases e : i = j + 1
    · subst e; exact Nat.le_refl _
    · exact Nat.le_trans (ih (by omega) (by omega)) (M_mono ht hc (by omega)).1
theorem Hs_wf (ht : Trc call l E M Hs V) (hc : CallWF call) (h0 : Wf (Hs 0) (M 0)) : ∀ i, i ≤ l.length → Wf (Hs i) (M i)
  | 0, _ => h0
  | i + 1, hi => (M_mono ht hc (by omega)).wf (Hs_wf ht hc h0 i (by omega))
theorem obAt_some (ht : Trc call l E M Hs V) {m : Nat} {x : S × Ob} (h : obAt l E M m = some x) : m < l.length ∧ x.1 = M m ∧ M (m + 1) = (M m).succ ∧ Hs (m + 1) = (Hs m).set x.1 x.2 := by
  unfold obAt at h
  split at h
  case h_2 => simp at h
  rename_i I hI
  split at h
  case isFalse => simp at h
  rename_i hw
  split at h
  case h_2 => simp at h
  rename_i o ho
  have h1 := ht.yes m I hI hw
  rw [ho] at h1
  simp only [Act1.run] at h1
  cases hr : o.run (E m) (M m) with
  | none => rw [hr] at h; simp at h
  | some p =>
    obtain ⟨v, ob⟩ := p
    rw [hr] at h h1
    simp at h h1
    obtain ⟨g1, g2, g3⟩ := h1
    subst h
    exact ⟨(List.getElem?_eq_some_iff.1 hI).1, rfl, g2.symm, g3.symm⟩
theorem mem_Xf : ∀ {k i : Nat}, l.length - i = k → ∀ {x : S × Ob}, x ∈ Xf l E M i → ∃ m, i ≤ m ∧ m < l.length ∧ obAt l E M m = some x
  | 0, i, hk, x, hx => by
    unfold Xf at hx; rw [hk] at hx; simp [Xs] at hx
  | k + 1, i, hk, x, hx => by
    rw [Xf_succ (by omega)] at hx
    simp only [List.mem_append, Option.mem_toList] at hx
    rcases hx with hx | hx
    · exact ⟨i, Nat.le_refl _, by omega, hx⟩
    · obtain ⟨m, h1, h2⟩ := mem_Xf (k := k) (i := i + 1) (by omega) hx
      exact ⟨m, by omega, h2⟩
theorem X_name (ht : Trc call l E M Hs V) (hc : CallWF call) {i : Nat} {x : S × Ob} (hx : x ∈ Xf l E M i) : (M i).toNat ≤ x.1.toNat := by
  obtain ⟨m, h1, h2, h3⟩ := mem_Xf rfl hx
  rw [(obAt_some ht h3).2.1]
  exact M_le ht hc h1 (by omega)
theorem addX_get (ht : Trc call l E M Hs V) (hc : CallWF call) {m : Nat} {x : S × Ob} (hm : obAt l E M m = some x) : ∀ (k i : Nat), i + k = m → ∀ H : Hp, (addL H (Xf l E M i)).get x.1 = some x.2
  | 0, i, h, H => by
    have : i = m := by omega
    subst this
    obtain ⟨h1, h2, h3, _⟩ := obAt_some ht hm
    rw [Xf_succ h1, hm]
    simp only [Option.toList_some, List.singleton_append, addL_cons]
    rw [addL_not, Tr.get_set, if_pos rfl]
    intro y hy e
    have := X_name ht hc hy
    rw [e, h2, h3, S.toNat_succ] at this
    omega
  | k + 1, i, h, H => by
    have h1 := (obAt_some ht hm).1
    rw [Xf_succ (by omega)]
    cases hb : obAt l E M i with
    | none => simpa using addX_get ht hc hm k (i + 1) (by omega) H
    | some y =>
      simp only [Option.toList_some, List.singleton_append, addL_cons]
      exact addX_get ht hc hm k (i + 1) (by omega) _
/-- only an effect turns it -/
theorem T_step (ht : Trc call l E M Hs V) {i : Nat} {I : Ins} (hI : l[i]? = some I) (h : isEff I.act = false ∨ wantedA (E i) I.guard = false) : Tf l E M Hs (i + 1) = Tf l E M Hs i := by
  have hi : i < l.length := (List.getElem?_eq_some_iff.1 hI).1
  unfold Tf
  rw [Xf_succ hi]
  cases hb : obAt l E M i with
  | some x =>
    obtain ⟨_, _, _, h4⟩ := obAt_some ht hb
    simp only [Option.toList_some, List.singleton_append, addL_cons, h4]
  | none =>
    have : Hs (i + 1) = Hs i := by
      cases hw : wantedA (E i) I.guard with
      | false => exact (ht.no i I hI hw).2.2
      | true =>
        have h1 := ht.yes i I hI hw
        rw [hw] at h
        simp at h
        unfold obAt at hb
        rw [hI] at hb
        simp only [hw, if_true] at hb
        cases ha : I.act with
        | p o => rw [ha] at h1; simp only [Act1.run] at h1; split at h1 <;> simp at h1; exact h1.2.2.symm
        | r o => rw [ha] at h1; simp only [Act1.run] at h1; split at h1 <;> simp at h1; exact h1.2.2.symm
        | a o =>
          rw [ha] at h1 hb
          simp only [Act1.run] at h1
          cases hr : o.run (E i) (M i) with
          | none => rw [hr] at h1; simp at h1
          | some p => simp [hr] at hb
        | e o => rw [ha] at h; simp [isEff] at h
        | call f as => rw [ha] at h; simp [isEff] at h
        | callv f as => rw [ha] at h; simp [isEff] at h
    simp [this]
theorem T_const (ht : Trc call l E M Hs V) : ∀ (k c : Nat), c + k ≤ l.length → (∀ m, c ≤ m → m < c + k → m ∉ effs l) → Tf l E M Hs (c + k) = Tf l E M Hs c
  | 0, c, _, _ => rfl
  | k + 1, c, hl, h => by
    have hI : l[c + k]? = some l[c + k] := List.getElem?_eq_getElem (by omega)
    have hne : isEff l[c + k].act = false := by
      cases he : isEff l[c + k].act with
      | false => rfl
      | true => exact absurd (mem_effs.2 ⟨_, hI, he⟩) (h (c + k) (by omega) (by omega))
    rw [show c + (k + 1) = (c + k) + 1 by omega, T_step ht hI (.inl hne)]
    exact T_const ht k c (by omega) fun m h1 h2 => h m h1 (by omega)
theorem T_eq (ht : Trc call l E M Hs V) {c i : Nat} (hc : c ≤ l.length) (hi : i ≤ l.length) (h : ∀ m ∈ effs l, m < c ↔ m < i) : Tf l E M Hs c = Tf l E M Hs i := by
  have key : ∀ a b, a ≤ b → b ≤ l.length → (∀ m ∈ effs l, m < a ↔ m < b) → Tf l E M Hs b = Tf l E M Hs a := by
    intro a b hab hb hm
    have := T_const ht (b - a) a (by omega) fun m h1 h2 hme => by
      have := hm m hme; omega
    rwa [show a + (b - a) = b by omega] at this
  rcases Nat.le_total c i with h1 | h1
  · exact (key c i h1 hi h).symm
  · exact key i c h1 hc fun m hm => (h m hm).symm
theorem Hs_T (ht : Trc call l E M Hs V) (hc : CallWF call) (h0 : Wf (Hs 0) (M 0)) {i : Nat} (hi : i ≤ l.length) {b : S} {ob : Ob} (hb : (Hs i).get b = some ob) : (Tf l E M Hs i).get b = some ob := by
  unfold Tf
  rw [addL_not]
  · exact hb
  · intro x hx e
    have h1 := X_name ht hc hx
    have := Hs_wf ht hc h0 i hi b (by rw [← e]; exact h1)
    rw [this] at hb; simp at hb
theorem next_ex : ∀ (k c : Nat), c + k = l.length → ∃ c', c' ∈ effs l ++ [l.length] ∧ c' ≤ l.length ∧ ∀ m ∈ effs l, m < c' ↔ m < c
  | 0, c, h => ⟨c, by simp at h; simp [h], by omega, fun _ _ => Iff.rfl⟩
  | k + 1, c, h => by
    by_cases hc : c ∈ effs l
    · exact ⟨c, by simp [hc], by omega, fun _ _ => Iff.rfl⟩
    · obtain ⟨c', h1, h2, h3⟩ := next_ex k (c + 1) (by omega)
      refine ⟨c', h1, h2, fun m hm => ?_⟩
      have h4 := h3 m hm
      have : m ≠ c := fun e => hc (e ▸ hm)
      omega
end
end Go.Ab
/- Regions that draw their order, part 4: the theorem. -/
set_option linter.unusedSimpArgs false
set_option linter.unusedVariables false
namespace Go.Ab
open Go
section
variable {P : Program} {fn : FuncId} {rd : Option Nat} {df : List Deferred} {k : List Item} {cs : List Frame} {call : Caller}
variable {l : List Ins} {E : Nat → Env} {M : Nat → S} {Hs : Nat → Hp} {V : Nat → AV} {ops : Array Oper} {N : Nat}

/-- in the middle of a region -/
structure Inv (P : Program) (ops : Array Oper) (N : Nat) (l : List Ins) (E : Nat → Env) (M : Nat → S) (Hs : Nat → Hp) (V : Nat → AV) (ι0 : Io) (w0 : World) (listed : Array Bool) (tm : Array Value) (w : World) (ι : Io) : Prop where
  size : listed.size = ops.size
  closed : ∀ i o, ops[i]? = some o → listed.getD i true = true → ∀ e ∈ o.after, Region.binds .any e = true → listed.getD e.on false = true
  tsize : tm.size = N
  env : ∃ es, EnvRel ι es tm ∧ (∀ j y d, l[j]? = some y → y.dst = some d → listed.getD j true = true → at_ es d = V j) ∧
    (∀ d, (∀ j y, l[j]? = some y → listed.getD j true = true → y.dst ≠ some d) → at_ es d = at_ (E 0) d)
  mem : ∃ c, c ≤ l.length ∧ (∀ m ∈ effs l, listed.getD m true = true ↔ m < c) ∧ HRel P ι (Tf l E M Hs c) w ∧ St ι0 (Hs 0) (M 0) (M l.length) w0 ι (Tf l E M Hs c) w ∧
    (∀ m x, obAt l E M m = some x → listed.getD m true = false → (Tf l E M Hs c).get x.1 = some x.2)
  fresh : ∀ i, i < l.length → listed.getD i true = false → FreshI ι (M i) (M (i + 1))

theorem getD_set {listed : Array Bool} {i m : Nat} {b : Bool} (hi : i < listed.size) : (listed.setIfInBounds i true).getD m b = if m = i then true else listed.getD m b := by
  simp only [Array.getD_eq_getD_getElem?, Array.getElem?_setIfInBounds]
  by_cases h : m = i
  · subst h; simp [hi]
  · rw [if_neg h, if_neg (fun e => h e.symm)]

theorem inv_next (hl : cInss P N ops ops.toList = some l) {A : List Nat} (hA : okAnc ops.toList A = true) (hS : okSlots l A = true) (ht : Trc call l E M Hs V) (hcw : CallWF call)
    {ι0 ι ι' : Io} {w0 w w' : World} {listed : Array Bool} {tm : Array Value} {i c c' : Nat} {o : Oper} {I : Ins} {es : Env} {u : Value}
    (hsz : listed.size = ops.size) (hcl : ∀ i o, ops[i]? = some o → listed.getD i true = true → ∀ e ∈ o.after, Region.binds .any e = true → listed.getD e.on false = true)
    (htm : tm.size = N) (he : EnvRel ι es tm) (he1 : ∀ j y d, l[j]? = some y → y.dst = some d → listed.getD j true = true → at_ es d = V j)
    (he2 : ∀ d, (∀ j y, l[j]? = some y → listed.getD j true = true → y.dst ≠ some d) → at_ es d = at_ (E 0) d)
    (hst0 : St ι0 (Hs 0) (M 0) (M l.length) w0 ι (Tf l E M Hs c) w)
    (hob : ∀ m x, obAt l E M m = some x → listed.getD m true = false → (Tf l E M Hs c).get x.1 = some x.2)
    (hfr : ∀ i, i < l.length → listed.getD i true = false → FreshI ι (M i) (M (i + 1)))
    (ho : ops[i]? = some o) (hun : listed.getD i true = false) (hr : ∀ e ∈ o.after, Region.binds .any e = true → listed.getD e.on false = true)
    (hI : l[i]? = some I) (hIo : cIns P N ops o = some I)
    (hc' : c' ≤ l.length) (hcm : ∀ m ∈ effs l, (listed.setIfInBounds i true).getD m true = true ↔ m < c')
    (hv : VRel ι' (V i) u) (hH : HRel P ι' (Tf l E M Hs c') w') (hst : St ι (Tf l E M Hs c) (M i) (M (i + 1)) w ι' (Tf l E M Hs c') w') :
    Inv P ops N l E M Hs V ι0 w0 (listed.setIfInBounds i true) (tmPut tm o.dst u) w' ι' := by
  have hil : i < l.length := (List.getElem?_eq_some_iff.1 hI).1
  have hlen : l.length = ops.size := by simpa using (cInss_some hl).1
  have his : i < listed.size := by omega
  obtain ⟨q1, q2⟩ := slot_rel hIo (he.mono hst.le) htm hv
  have hm1 : (M 0).toNat ≤ (M i).toNat := M_le ht hcw (Nat.zero_le _) (by omega)
  have hm2 : (M (i + 1)).toNat ≤ (M l.length).toNat := M_le ht hcw (by omega) (Nat.le_refl _)
  refine ⟨by simp [hsz], fun j o' ho' hj e hee hb => ?_, q2, ⟨putD es I.dst (V i), q1, fun j y d hy hd hj => ?_, fun d hd => ?_⟩, ⟨c', hc', hcm, hH, hst0.trans' (hst.wide hm1 hm2), fun m x hx hm => ?_⟩, fun m hm hmu => ?_⟩
  · rw [getD_set his] at hj ⊢
    split
    · rfl
    · by_cases e1 : j = i
      · subst e1
        rw [ho] at ho'; simp at ho'; subst ho'
        exact hr e hee hb
      · rw [if_neg e1] at hj
        exact hcl j o' ho' hj e hee hb
  · rw [at_putD]
    by_cases e1 : i = j
    · subst e1
      rw [hI] at hy; simp at hy; subst hy
      rw [if_pos hd]
    · rw [if_neg ((okSlots_some hS hI hy hd).1 e1)]
      rw [getD_set his, if_neg (fun e => e1 e.symm)] at hj
      exact he1 j y d hy hd hj
  · rw [at_putD, if_neg (hd i I hI (by rw [getD_set his, if_pos rfl]))]
    refine he2 d fun j y hy hj => hd j y hy ?_
    rw [getD_set his]
    split
    · rfl
    · exact hj
  · rw [getD_set his] at hm
    split at hm
    · simp at hm
    · rename_i e1
      obtain ⟨g1, g2, g3, _⟩ := obAt_some ht hx
      have h1 := hfr m g1 hm x.1 (by rw [g2]; omega) (by rw [g2, g3, S.toNat_succ]; omega)
      rw [hst.pres x.1 ?_ h1]
      · exact hob m x hx hm
      · rcases Nat.lt_or_ge m i with h2 | h2
        · left
          have := M_le ht hcw (i := m + 1) (j := i) (by omega) (by omega)
          rw [g3, S.toNat_succ] at this
          rw [g2]; omega
        · right
          have := M_le ht hcw (i := i + 1) (j := m) (by omega) (by omega)
          rw [g2]; omega
  · rw [getD_set his] at hmu
    split at hmu
    · simp at hmu
    · rename_i e1
      intro b hb1 hb2
      rw [hst.out b ?_]
      · exact hfr m hm hmu b hb1 hb2
      · rcases Nat.lt_or_ge m i with h2 | h2
        · left
          have := M_le ht hcw (i := m + 1) (j := i) (by omega) (by omega)
          omega
        · right
          have := M_le ht hcw (i := i + 1) (j := m) (by omega) (by omega)
          omega

theorem inv_step (hl : cInss P N ops ops.toList = some l) {A : List Nat} (hA : okAnc ops.toList A = true) (hS : okSlots l A = true) (hCh : okChain l A = true) (ht : Trc call l E M Hs V) (hcw : CallWF call) (hc : CallOK P call)
    (h0 : Wf (Hs 0) (M 0)) {hs : List Hp} (hhs : hs = (effs l ++ [l.length]).map Hs) (hchk : chkOk (E l.length) hs (checks l A) = true)
    {ι0 : Io} {w0 : World} (listed : Array Bool) (tm : Array Value) (w : World) (ι : Io) (i : Nat) (o : Oper) (rest : List Nat) (hinv : Inv P ops N l E M Hs V ι0 w0 listed tm w ι)
    (ho : ops[i]? = some o) (hun : listed.getD i true = false) (hr : ∀ e ∈ o.after, Region.binds .any e = true → listed.getD e.on false = true) :
    ∃ tm' w' ι', Go.Steps P (lone (Fr fn rd tm df (.inRegion ops (i :: rest) :: k)) cs w) (lone (Fr fn rd tm' df (.inRegion ops rest :: k)) cs w') ∧ Inv P ops N l E M Hs V ι0 w0 (listed.setIfInBounds i true) tm' w' ι' := by
  obtain ⟨hsz, hcl, htm, ⟨es, he, he1, he2⟩, ⟨c, hcl', hcm, hT, hst0, hob⟩, hfr⟩ := hinv
  obtain ⟨I, hI, hIo⟩ := (cInss_some hl).2 i o (by simpa using ho)
  have hil : i < l.length := (List.getElem?_eq_some_iff.1 hI).1
  have hlen : l.length = ops.size := by simpa using (cInss_some hl).1
  have his : i < listed.size := by omega
  have hE := ht.put i I hI
  -- what lies before i is done, what lies behind it is not
  have hbef : ∀ j, j < l.length → (A.getD i 0).testBit j = true → listed.getD j true = true := fun j hj hb =>
    anc_done hA hsz hcl i j (by omega) (by omega) (fun o' ho' => by rw [ho] at ho'; simp at ho'; subst ho'; exact hr) hb
  have haft : ∀ j, j < l.length → (A.getD j 0).testBit i = true → listed.getD j true = false := fun j hj hb => by
    cases hlj : listed.getD j true with
    | false => rfl
    | true =>
      have := anc_done hA hsz hcl j i (by omega) (by omega) (fun o' ho' => hcl j o' ho' hlj) hb
      rw [hun] at this; simp at this
  have hefl : ∀ m ∈ effs l, m < l.length := fun m hm => by
    obtain ⟨J, hJ, _⟩ := mem_effs.1 hm
    exact (List.getElem?_eq_some_iff.1 hJ).1
  -- the slots that it reads
  have hag : Ag es (E i) I.slots := by
    intro d hd
    by_cases hw : ∃ (j : Nat) (y : Ins), l[j]? = some y ∧ y.dst = some d
    · obtain ⟨j, y, hy, hyd⟩ := hw
      have hj : j < l.length := (List.getElem?_eq_some_iff.1 hy).1
      rcases (okSlots_some hS hI hy hyd).2 hd with h1 | ⟨_, h1⟩
      · rw [he1 j y d hy hyd (hbef j hj h1), E_dst ht hS hy hyd i (by omega) (anc_lt hA i j (by omega) (by omega) h1)]
      · have hij : i ≤ j := by
          rcases h1 with h1 | h1
          · omega
          · have := anc_lt hA j i (by omega) (by omega) h1; omega
        have hju : listed.getD j true = false := by
          rcases h1 with h1 | h1
          · subst h1; exact hun
          · exact haft j hj h1
        rw [he2 d fun j' y' hy' hj' e => ?_, E_not ht i (by omega) fun j' y' hj' hy' e => ?_]
        · have : j' = j := Classical.byContradiction fun hne => (okSlots_some hS hy' hy hyd).1 hne e
          omega
        · have : j' = j := Classical.byContradiction fun hne => (okSlots_some hS hy' hy hyd).1 hne e
          subst this
          rw [hju] at hj'; simp at hj'
    · rw [he2 d fun j y hy _ e => hw ⟨j, y, hy, e⟩, E_not ht i (by omega) fun j y _ hy e => hw ⟨j, y, hy, e⟩]
  have hagw : Ag es (E i) (match I.guard with | some (s, _) => [s] | none => []) := Ag.l hag
  have haga : Ag es (E i) I.act.slots := Ag.r hag
  have hwe := wanted_eq (tm := tm) hIo he (fun d hd => by rw [htm]; exact cInss_dst hl hd)
  have hwa := wanted_ag (g := I.guard) hagw
  -- where the effects stand
  have hceq : i ∈ effs l → ∀ m ∈ effs l, m < c ↔ m < i := by
    intro hi m hm
    rw [← hcm m hm]
    have hml := hefl m hm
    constructor
    · intro h1
      rcases Nat.lt_trichotomy m i with h2 | h2 | h2
      · exact h2
      · subst h2; rw [hun] at h1; simp at h1
      · rw [haft m hml (okChain_some hCh hi hm h2)] at h1; simp at h1
    · intro h1
      exact hbef m hml (okChain_some hCh hm hi h1)
  have hcn : i ∈ effs l → ∀ m ∈ effs l, (listed.setIfInBounds i true).getD m true = true ↔ m < i + 1 := by
    intro hi m hm
    rw [getD_set his]
    have := hceq hi m hm
    have h2 := hcm m hm
    split
    · rename_i e; subst e; simp
    · rw [h2, this]; omega
  have hcs : i ∉ effs l → ∀ m ∈ effs l, (listed.setIfInBounds i true).getD m true = true ↔ m < c := by
    intro hi m hm
    rw [getD_set his, if_neg (fun e : m = i => hi (e ▸ hm))]
    exact hcm m hm
  have hTi : i ∈ effs l → Tf l E M Hs c = Tf l E M Hs i := fun hi => T_eq ht hcl' (by omega) (hceq hi)
  cases hw : wantedA (E i) I.guard with
  | false =>
    rw [hwa, hw] at hwe
    obtain ⟨a1, a2, a3⟩ := ht.no i I hI hw
    have hTs := T_step ht hI (.inr hw)
    refine ⟨_, w, ι, s_opNot ho hwe, ?_⟩
    by_cases hi : i ∈ effs l
    · refine inv_next hl hA hS ht hcw (c := c) (c' := i + 1) hsz hcl htm he he1 he2 hst0 hob hfr ho hun hr hI hIo (by omega) (hcn hi) ?_ ?_ ?_
      · rw [a1]; exact VRel.undef
      · rw [hTs, ← hTi hi]; exact hT
      · rw [hTs, ← hTi hi, a2]; exact St.refl ..
    · refine inv_next hl hA hS ht hcw (c := c) (c' := c) hsz hcl htm he he1 he2 hst0 hob hfr ho hun hr hI hIo hcl' (hcs hi) ?_ hT ?_
      · rw [a1]; exact VRel.undef
      · rw [a2]; exact St.refl ..
  | true =>
    rw [hwa, hw] at hwe
    have hrun := ht.yes i I hI hw
    rw [← act_ag haga] at hrun
    have hfi := hfr i hil hun
    have hnoeff : isEff I.act = false → i ∉ effs l := fun h hi => by
      obtain ⟨J, hJ, hJe⟩ := mem_effs.1 hi
      rw [hI] at hJ; simp at hJ; subst hJ
      rw [h] at hJe; simp at hJe
    -- an effect
    have heff : isEff I.act = true → ∃ tm' w' ι', Go.Steps P (lone (Fr fn rd tm df (.inRegion ops (i :: rest) :: k)) cs w) (lone (Fr fn rd tm' df (.inRegion ops rest :: k)) cs w') ∧ Inv P ops N l E M Hs V ι0 w0 (listed.setIfInBounds i true) tm' w' ι' := by
      intro hie
      have hi : i ∈ effs l := mem_effs.2 ⟨I, hI, hie⟩
      have hTc := hTi hi
      have hHi : HRel P ι (Hs i) w := (hTc ▸ hT).sub fun b ob hb _ => Hs_T ht hcw h0 (by omega) hb
      have hwfi := Hs_wf ht hcw h0 i (by omega)
      obtain ⟨ι', w', u, g1, g2, g3, g4⟩ := act_step (fn := fn) (rd := rd) (df := df) (k := k) (cs := cs) (rest := rest) ho hIo he hHi (fun _ => hwfi) hfi hc hwe hrun
      have hobn : obAt l E M i = none := by
        unfold obAt
        rw [hI]
        simp only [hw, if_true]
        cases ha : I.act <;> first
          | rfl
          | (rw [ha] at hie; simp [isEff] at hie)
      have hX : Xf l E M i = Xf l E M (i + 1) := by rw [Xf_succ hil, hobn]; rfl
      have hTi' : Tf l E M Hs i = addL (Hs i) (Xf l E M (i + 1)) := by unfold Tf; rw [hX]
      obtain ⟨k1, k2⟩ := frame_add (xs := Xf l E M (i + 1)) (fun x hx => by
        have h1 := X_name ht hcw hx
        have h2 := (M_mono ht hcw hil).1
        exact ⟨.inr h1, hwfi x.1 (by omega)⟩) (hTi' ▸ hTc ▸ hT) g3 g4
      refine ⟨_, w', ι', g1, inv_next hl hA hS ht hcw (c := c) (c' := i + 1) hsz hcl htm he he1 he2 hst0 hob hfr ho hun hr hI hIo (by omega) (hcn hi) g2 k1 ?_⟩
      rw [hTc, hTi']
      exact k2
    cases ha : I.act with
    | e x => exact heff (by rw [ha]; rfl)
    | call f x => exact heff (by rw [ha]; rfl)
    | callv f x => exact heff (by rw [ha]; rfl)
    | p x =>
      have hi := hnoeff (by rw [ha]; rfl)
      have hrun' := hrun
      rw [ha] at hrun'
      simp only [Act1.run] at hrun'
      split at hrun'
      case h_2 => simp at hrun'
      rename_i v hv
      simp at hrun'
      obtain ⟨a1, a2, a3⟩ := hrun'
      obtain ⟨h1, _, _⟩ := cIns_some hIo
      have hb : I.act ≠ .p .bad := by
        intro e1; rw [e1] at ha; simp at ha; subst ha; simp [POp.run] at hv
      have hop := cAct_some h1 hb
      rw [ha] at hop
      obtain ⟨u, g1, g2⟩ := pop_run (O := o) (a := actOf tm) hop he hv w
      refine ⟨_, w, ι, s_opVal ho hwe (noDefer_of hop) g1, inv_next hl hA hS ht hcw (c := c) (c' := c) hsz hcl htm he he1 he2 hst0 hob hfr ho hun hr hI hIo hcl' (hcs hi) (a1 ▸ g2) hT ?_⟩
      rw [← a2]; exact St.refl ..
    | a x =>
      have hi := hnoeff (by rw [ha]; rfl)
      have hrun' := hrun
      rw [ha] at hrun'
      simp only [Act1.run] at hrun'
      split at hrun'
      case h_2 => simp at hrun'
      rename_i v ob hv
      simp at hrun'
      obtain ⟨a1, a2, a3⟩ := hrun'
      have hobi : obAt l E M i = some (M i, ob) := by
        unfold obAt
        rw [hI]
        simp only [hw, if_true, ha]
        rw [ha] at haga
        rw [← lop_ag (o := x) (id := M i) haga, hv]
        rfl
      have hTg := hob i _ hobi hun
      simp only at hTg
      have hrun2 : I.act.run call es (M i) (Tf l E M Hs c) = .mk (V i) (M (i + 1)) ((Tf l E M Hs c).set (M i) ob) := by
        rw [ha]; simp only [Act1.run, hv, a1, a2]
      obtain ⟨ι', w', u, g1, g2, g3, g4⟩ := act_step (fn := fn) (rd := rd) (df := df) (k := k) (cs := cs) (rest := rest) ho hIo he hT (fun h => by rw [ha] at h; simp [isEff] at h) hfi hc hwe hrun2
      have hcg : ∀ b, (Tf l E M Hs c).get b = ((Tf l E M Hs c).set (M i) ob).get b := fun b => by
        rw [Tr.get_set]; split
        · rename_i e; subst e; exact hTg
        · rfl
      exact ⟨_, w', ι', g1, inv_next hl hA hS ht hcw (c := c) (c' := c) hsz hcl htm he he1 he2 hst0 hob hfr ho hun hr hI hIo hcl' (hcs hi) g2 (g3.congr hcg) (g4.congr (fun _ => rfl) hcg)⟩
    | r x =>
      have hi := hnoeff (by rw [ha]; rfl)
      have hrun' := hrun
      rw [ha] at hrun'
      simp only [Act1.run] at hrun'
      split at hrun'
      case h_2 => simp at hrun'
      rename_i v hv
      simp at hrun'
      obtain ⟨a1, a2, a3⟩ := hrun'
      obtain ⟨h1, _, _⟩ := cIns_some hIo
      have hop := cAct_some h1 (by rw [ha]; simp)
      rw [ha] at hop
      have fin : (∃ u, (execOp (actOf tm).eval o).run P w = .ok (.value u) w ∧ VRel ι (V i) u) → ∃ tm' w' ι', Go.Steps P (lone (Fr fn rd tm df (.inRegion ops (i :: rest) :: k)) cs w) (lone (Fr fn rd tm' df (.inRegion ops rest :: k)) cs w') ∧
          Inv P ops N l E M Hs V ι0 w0 (listed.setIfInBounds i true) tm' w' ι' := by
        rintro ⟨u, g1, g2⟩
        refine ⟨_, w, ι, s_opVal ho hwe (noDefer_of hop) g1, inv_next hl hA hS ht hcw (c := c) (c' := c) hsz hcl htm he he1 he2 hst0 hob hfr ho hun hr hI hIo hcl' (hcs hi) g2 hT ?_⟩
        rw [← a2]; exact St.refl ..
      obtain ⟨c', hc1, hc2, hc3⟩ := next_ex (l := l) (l.length - c) c (by omega)
      cases hlk : likeAt l i c' with
      | true =>
        have hTc : Tf l E M Hs c = Tf l E M Hs i := by
          refine T_eq ht hcl' (by omega) fun m hm => ?_
          unfold likeAt at hlk
          rw [List.all_eq_true] at hlk
          have := hlk m hm
          have h3 := hc3 m hm
          simp at this
          rw [← h3, ← this]
        have hHi : HRel P ι (Hs i) w := (hTc ▸ hT).sub fun b ob hb _ => Hs_T ht hcw h0 (by omega) hb
        rw [a1] at hv
        exact fin (rop_run (O := o) (a := actOf tm) hop he hHi hv)
      | false =>
        obtain ⟨j, hj⟩ := List.mem_iff_getElem?.1 hc1
        have hjl : j < (effs l).length + 1 := by
          have := (List.getElem?_eq_some_iff.1 hj).1
          simpa using this
        have hgd : (effs l ++ [l.length]).getD j 0 = c' := by simp [List.getD, hj]
        have hmay : mayAt l A i c' = true := by
          unfold mayAt
          rw [List.all_eq_true]
          intro m hm
          have hml := hefl m hm
          have h3 := hc3 m hm
          have h4 := hcm m hm
          simp only [Bool.and_eq_true, Bool.or_eq_true, Bool.not_eq_true', decide_eq_true_iff]
          constructor
          · cases hb : (A.getD i 0).testBit m with
            | false => exact .inl rfl
            | true => right; rw [h3, ← h4]; exact hbef m hml hb
          · cases hb : (A.getD m 0).testBit i with
            | false => exact .inl rfl
            | true =>
              right
              have h5 := haft m hml hb
              have h6 : ¬ m < c := by rw [← h4, h5]; simp
              rw [← h3] at h6
              omega
        have hpl : j ∈ places l A i := by
          unfold places
          rw [List.mem_filter]
          exact ⟨List.mem_range.2 hjl, by rw [hgd, hmay, hlk]; rfl⟩
        have hck : (I, places l A i) ∈ checks l A := by
          unfold checks
          rw [List.mem_filterMap]
          refine ⟨i, List.mem_range.2 hil, ?_⟩
          rw [hI]
          have hne : (places l A i).isEmpty = false := by
            cases hp : places l A i with
            | nil => rw [hp] at hpl; simp at hpl
            | cons => rfl
          simp only [hne, ha, isRd]
          simp
        -- at the end its slots are what they are here
        have hagE : Ag es (E l.length) I.slots := by
          intro d hd
          by_cases hwr : ∃ (j : Nat) (y : Ins), l[j]? = some y ∧ y.dst = some d
          · obtain ⟨j, y, hy, hyd⟩ := hwr
            have hj : j < l.length := (List.getElem?_eq_some_iff.1 hy).1
            rcases (okSlots_some hS hI hy hyd).2 hd with h1 | ⟨h2, _⟩
            · rw [he1 j y d hy hyd (hbef j hj h1), E_dst ht hS hy hyd l.length (Nat.le_refl _) hj]
            · rw [ha] at h2; simp [isRd] at h2
          · rw [he2 d fun j y hy _ e => hwr ⟨j, y, hy, e⟩, E_not ht l.length (Nat.le_refl _) fun j y _ hy e => hwr ⟨j, y, hy, e⟩]
        have hwE : wantedA (E l.length) I.guard = true := by
          rw [← wanted_ag (g := I.guard) (Ag.l hagE), hwa]; exact hw
        obtain ⟨x', d, b1, b2, b3⟩ := chkOk_some hchk hck hwE
        rw [ha] at b1; simp at b1; subst b1
        obtain ⟨hh, b4, b5⟩ := b3 j hpl
        have b6 : hh = Hs c' := by
          rw [hhs, List.getElem?_map, hj] at b4
          simpa using b4.symm
        subst b6
        have hTc : Tf l E M Hs c = Tf l E M Hs c' := T_eq ht hcl' hc2 fun m hm => (hc3 m hm).symm
        have hHi : HRel P ι (Hs c') w := (hTc ▸ hT).sub fun b ob hb _ => Hs_T ht hcw h0 hc2 hb
        have hagx : Ag es (E l.length) x.slots := by
          have := Ag.r hagE
          rw [ha] at this; exact this
        rw [← rop_ag hagx, E_dst ht hS hI b2 l.length (Nat.le_refl _) hil] at b5
        exact fin (rop_run (O := o) (a := actOf tm) hop he hHi b5)
end
end Go.Ab
/- Regions, whole: with a drawn order or without. -/
set_option linter.unusedSimpArgs false
set_option linter.unusedVariables false
namespace Go.Ab
open Go
section
variable {P : Program} {fn : FuncId} {rd : Option Nat} {df : List Deferred} {k : List Item} {cs : List Frame} {call : Caller}

theorem EnvRel.congr {ι : Io} {e e' : Env} {tm : Array Value} (h : EnvRel ι e tm) (he : ∀ s, at_ e' s = at_ e s) : EnvRel ι e' tm := fun t => by rw [he]; exact h t
theorem draw_run (hm : P.follows .mixedOrders = true) {id : Nat} {ops : Array Oper} {N : Nat} {l : List Ins} (hl : cInss P N ops ops.toList = some l) {A : List Nat} (hA : okAnc ops.toList A = true) (hS : okSlots l A = true)
    (hCh : okChain l A = true) (hc : CallOK P call) (hcw : CallWF call) {e e' : Env} {nx nx' : S} {H H' : Hp} {x : X} {ι : Io} {tm : Array Value} {w : World}
    (hr : runOps call l e nx H = .mk x e' nx' H') (hk : chkOk e' (snaps call l e nx H) (checks l A) = true) (he : EnvRel ι e tm) (htm : tm.size = N) (hH : HRel P ι H w) (hwf : Wf H nx) (hf : FreshI ι nx nx') :
    ∃ ι' w' tm', Go.Steps P (lone (Fr fn rd tm df (.code (.region id ops true) :: k)) cs w) (lone (Fr fn rd tm' df k) cs w') ∧
        tm'.size = N ∧ EnvRel ι' e' tm' ∧ HRel P ι' H' w' ∧ St ι H nx nx' w ι' H' w' := by
  obtain ⟨E, M, Hs, V, ht, b1, b2, b3, b4, b5, b6, b7⟩ := trc_ex hr
  subst b1; subst b2; subst b3; subst b4; subst b5; subst b6
  have hlen : l.length = ops.size := by simpa using (cInss_some hl).1
  have hn : ∀ i b, i < ops.size → (Array.replicate ops.size false).getD i b = false := fun i b hi => by simp [Array.getD, hi]
  have hle : ∀ i j, i ≤ j → j ≤ l.length → (M i).toNat ≤ (M j).toNat := fun i j h1 h2 => M_le ht hcw h1 h2
  have hXn : ∀ y ∈ Xf l E M 0, (M 0).toNat ≤ y.1.toNat ∧ y.1.toNat < (M l.length).toNat := fun y hy => by
    obtain ⟨m, h1, h2, h3⟩ := mem_Xf rfl hy
    obtain ⟨g1, g2, g3, _⟩ := obAt_some ht h3
    have a1 := hle 0 m (by omega) (by omega)
    have a2 := hle (m + 1) l.length (by omega) (Nat.le_refl _)
    rw [g3, S.toNat_succ] at a2
    rw [g2]; omega
  have hsub : ∀ b ob, (Tf l E M Hs 0).get b = some ob → ι b ≠ none → (Hs 0).get b = some ob := fun b ob hb hi => by
    unfold Tf at hb
    rwa [addL_not] at hb
    intro y hy e1
    have := hXn y hy
    exact hi (hf b (by rw [← e1]; omega) (by rw [← e1]; omega))
  have hst1 : ∀ d, St ι (Hs 0) (M 0) (M l.length) w ι (Tf l E M Hs 0) { w with drawn := d } := fun d =>
    ⟨rfl, rfl, rfl, Nat.le_refl _, Io.le_refl _, fun _ _ => rfl, fun _ _ _ => rfl, fun b ob r p q hb hi _ => ⟨b, ob, p, q, hsub b ob hb (by rw [hi]; simp), hi⟩, fun b hb _ => by
      unfold Tf
      rw [addL_not]
      intro y hy e1
      have := hXn y hy
      rw [e1] at this; omega, hle 0 l.length (by omega) (Nat.le_refl _)⟩
  have hinv : Inv P ops N l E M Hs V ι w (Array.replicate ops.size false) tm { w with drawn := w.drawn + 1 } ι := by
    refine ⟨by simp, fun i o ho hi => ?_, htm, ⟨E 0, he, fun j y d hy hd hj => ?_, fun _ _ => rfl⟩, ⟨0, by omega, fun m hm => ?_, (hH.drawn _).sub hsub, hst1 _, fun m y hy _ => addX_get ht hcw hy m 0 (by omega) _⟩, fun i hi _ b h1 h2 => ?_⟩
    · have : i < ops.size := (Array.getElem?_eq_some_iff.1 ho).1
      rw [hn i true this] at hi; simp at hi
    · have : j < ops.size := by rw [← hlen]; exact (List.getElem?_eq_some_iff.1 hy).1
      rw [hn j true this] at hj; simp at hj
    · obtain ⟨J, hJ, _⟩ := mem_effs.1 hm
      have : m < ops.size := by rw [← hlen]; exact (List.getElem?_eq_some_iff.1 hJ).1
      rw [hn m true this]; simp
    · have a1 := hle 0 i (by omega) (by omega)
      have a2 := hle (i + 1) l.length (by omega) (Nat.le_refl _)
      exact hf b (by omega) (by omega)
  obtain ⟨tm', w', ι', listed', g1, ⟨_, _, g2, ⟨es, g3, g4, g5⟩, ⟨c, g6, g7, g8, g9, _⟩, _⟩, g10, g11⟩ := go_steps (P := P) (fn := fn) (rd := rd) (df := df) (k := k) (cs := cs) (ops := ops) (Inv := Inv P ops N l E M Hs V ι w)
    (fun listed tm w ι i o rest hi ho hun hr => inv_step hl hA hS hCh ht hcw hc hwf b7 hk listed tm w ι i o rest hi ho hun hr)
    (fun i o ho => (okAnc_some hA (by simpa using ho)).1) ops.size (w.tape w.drawn (.order fn id)) (Array.replicate ops.size false) tm { w with drawn := w.drawn + 1 } ι hinv (by simp) (by
      rw [Array.toList_replicate, List.count_replicate]; split <;> omega)
  have hTn : Tf l E M Hs c = Hs l.length := by
    have : Tf l E M Hs c = Tf l E M Hs l.length := T_eq ht g6 (Nat.le_refl _) fun m hm => by
      obtain ⟨J, hJ, _⟩ := mem_effs.1 hm
      have h1 : m < l.length := (List.getElem?_eq_some_iff.1 hJ).1
      rw [← g7 m hm, g11 m (by omega)]; simp [h1]
    rw [this]
    unfold Tf Xf
    rw [Nat.sub_self]; rfl
  refine ⟨ι', w', tm', ?_, g2, ?_, hTn ▸ g8, hTn ▸ g9⟩
  · refine .trans (s_draw (P := P)) ?_
    have e1 : Region.schedule (P.follows .mixedOrders) ops (w.tape w.drawn (.order fn id)) = Region.linearise.go .any ops ops.size (w.tape w.drawn (.order fn id)) (Array.replicate ops.size false) [] := by
      simp only [Region.schedule, hm, Bool.true_or, if_true]
      rfl
    rw [e1]
    exact .trans g1 s_regEnd
  · refine g3.congr fun s => ?_
    by_cases hw : ∃ (j : Nat) (y : Ins), l[j]? = some y ∧ y.dst = some s
    · obtain ⟨j, y, hy, hyd⟩ := hw
      have hj : j < l.length := (List.getElem?_eq_some_iff.1 hy).1
      rw [g4 j y s hy hyd (g11 j (by omega)), E_dst ht hS hy hyd l.length (Nat.le_refl _) hj]
    · rw [g5 s fun j y hy _ e => hw ⟨j, y, hy, e⟩, E_not ht l.length (Nat.le_refl _) fun j y _ hy e => hw ⟨j, y, hy, e⟩]
theorem reg_run {id : Nat} {ops : Array Oper} {N : Nat} {l : List Ins} (hl : cInss P N ops ops.toList = some l) (hc : CallOK P call) (hcw : CallWF call) {e e' : Env} {nx nx' : S} {H H' : Hp} {x : X} {ι : Io} {tm : Array Value} {w : World}
    (hr : runOps call l e nx H = .mk x e' nx' H') (he : EnvRel ι e tm) (htm : tm.size = N) (hH : HRel P ι H w) (hwf : Wf H nx) (hf : FreshI ι nx nx') :
    ∃ ι' w' tm', Go.Steps P (lone (Fr fn rd tm df (.code (.region id ops false) :: k)) cs w) (lone (Fr fn rd tm' df k) cs w') ∧
        tm'.size = N ∧ EnvRel ι' e' tm' ∧ HRel P ι' H' w' ∧ St ι H nx nx' w ι' H' w' := by
  obtain ⟨ι', w', tm', g1, g2⟩ := ops_run (P := P) (fn := fn) (rd := rd) (df := df) (k := k) (cs := cs) (ops := ops) (N := N) (fun d hd => cInss_dst hl hd) hc hcw ops.toList 0 l (fun j o ho => by simpa using ho) hl hr he htm hH hwf hf
  refine ⟨ι', w', tm', .trans s_region ?_, g2⟩
  rw [List.range_eq_range']
  have : ops.toList.length = ops.size := by simp
  rw [this] at g1
  exact .trans g1 s_regEnd
end
end Go.Ab
/- Code: what is left of a frame's work after it. -/
set_option linter.unusedSimpArgs false
set_option linter.unusedVariables false
namespace Go.Ab
open Go

/-- the marks of loops over functions among the deferred calls: nobody else's, and empty -/
def DfOK (s : Nat) (ι : Io) (H : Hp) (w : World) (df : List Deferred) : Prop :=
  s ≤ w.heap.size ∧ (∀ d ∈ df, ∃ r, d = { target := .collected r, args := #[] } ∧ s ≤ r ∧ r < w.heap.size ∧ w.heap[r]? = some (.deferred (some [])) ∧ ∀ b ob p q, H.get b = some ob → ι b ≠ some (r, p, q)) ∧ df.Nodup
theorem DfOK.step {s : Nat} {ι ι' : Io} {H H' : Hp} {nx nx' : S} {w w' : World} {df : List Deferred} (h : DfOK s ι H w df) (hs : St ι H nx nx' w ι' H' w') : DfOK s ι' H' w' df := by
  refine ⟨Nat.le_trans h.1 hs.size, fun d hd => ?_, h.2.2⟩
  obtain ⟨r, h1, h0, h2, h3, h4⟩ := h.2.1 d hd
  refine ⟨r, h1, h0, Nat.lt_of_lt_of_le h2 hs.size, by rw [hs.keep r h2 h4]; exact h3, fun b ob p q hb hi => ?_⟩
  obtain ⟨b0, ob0, p0, q0, g1, g2⟩ := hs.sub b ob r p q hb hi h2
  exact h4 b0 ob0 p0 q0 g1 g2
theorem DfOK.nil (ι : Io) (H : Hp) (w : World) : DfOK w.heap.size ι H w [] := ⟨Nat.le_refl _, by simp, by simp⟩

section
variable {P : Program} {fn : FuncId} {rd : Option Nat} {cs : List Frame}

/-- where a code leaves its frame -/
def After (P : Program) (fn : FuncId) (rd : Option Nat) (k : List Item) (cs : List Frame) (m : Machine) (tm : Array Value) (df : List Deferred) (w : World) : X → Prop
  | .norm => Go.Steps P m (lone (Fr fn rd tm df k) cs w)
  | .exit id => ∃ k1, exitTo id k1 = exitTo id k ∧ Go.Steps P m (lone (Fr fn rd tm df (.code (.exit id) :: k1)) cs w)
  | .ret => ∃ k1, Go.Steps P m (lone (Fr fn rd tm df (.code .ret :: k1)) cs w)
theorem After.pre {k : List Item} {m m' : Machine} {tm : Array Value} {df : List Deferred} {w : World} {x : X} (h : Go.Steps P m m') (h' : After P fn rd k cs m' tm df w x) : After P fn rd k cs m tm df w x := by
  cases x with
  | norm => exact .trans h h'
  | exit id => obtain ⟨k1, g1, g2⟩ := h'; exact ⟨k1, g1, .trans h g2⟩
  | ret => obtain ⟨k1, g2⟩ := h'; exact ⟨k1, .trans h g2⟩
/-- an exit or a return goes past what is not a block -/
theorem After.past {it : Item} {k : List Item} {m : Machine} {tm : Array Value} {df : List Deferred} {w : World} {x : X} (hx : x ≠ .norm) (hit : ∀ id, it ≠ .inBlock id) (h : After P fn rd (it :: k) cs m tm df w x) : After P fn rd k cs m tm df w x := by
  cases x with
  | norm => simp at hx
  | exit id =>
    obtain ⟨k1, g1, g2⟩ := h
    refine ⟨k1, ?_, g2⟩
    rw [g1]
    cases it <;> first
      | rfl
      | (rename_i id'; exact absurd rfl (hit id'))
  | ret => obtain ⟨k1, g2⟩ := h; exact ⟨k1, g2⟩

/-- what a code comes to -/
def CodeOK (P : Program) (fn : FuncId) (rd : Option Nat) (N : Nat) (c : Code) (noRf : Bool) (f : Env → S → Hp → R) : Prop :=
  ∀ (s : Nat) (k : List Item) (cs : List Frame) (df : List Deferred) (e e' : Env) (nx nx' : S) (H H' : Hp) (x : X) (ι : Io) (tm : Array Value) (w : World),
    f e nx H = .mk x e' nx' H' → EnvRel ι e tm → tm.size = N → HRel P ι H w → Wf H nx → FreshI ι nx nx' → DfOK s ι H w df →
    ∃ ι' w' tm' df', After P fn rd k cs (lone (Fr fn rd tm df (.code c :: k)) cs w) tm' df' w' x ∧ tm'.size = N ∧ EnvRel ι' e' tm' ∧ HRel P ι' H' w' ∧ St ι H nx nx' w ι' H' w' ∧ DfOK s ι' H' w' df' ∧ (noRf = true → df' = df)
theorem CodeOK.ap {N : Nat} {c : Code} {noRf : Bool} {f : Env → S → Hp → R} (h : CodeOK P fn rd N c noRf f) {s : Nat} {k : List Item} {cs : List Frame} {df : List Deferred} {e e' : Env} {nx nx' : S} {H H' : Hp} {x : X} {ι : Io} {tm : Array Value} {w : World} :
    f e nx H = .mk x e' nx' H' → EnvRel ι e tm → tm.size = N → HRel P ι H w → Wf H nx → FreshI ι nx nx' → DfOK s ι H w df →
    ∃ ι' w' tm' df', After P fn rd k cs (lone (Fr fn rd tm df (.code c :: k)) cs w) tm' df' w' x ∧ tm'.size = N ∧ EnvRel ι' e' tm' ∧ HRel P ι' H' w' ∧ St ι H nx nx' w ι' H' w' ∧ DfOK s ι' H' w' df' ∧ (noRf = true → df' = df) := h s k cs df e e' nx nx' H H' x ι tm w
def FExt (f : Env → S → Hp → R) : Prop := ∀ (e e' : Env) (nx nx' : S) (H H' : Hp) (x : X), f e nx H = .mk x e' nx' H' → Ext H nx nx' H'
theorem FExt.ap {f : Env → S → Hp → R} (hf : FExt f) {e e' : Env} {nx nx' : S} {H H' : Hp} {x : X} (h : f e nx H = .mk x e' nx' H') : Ext H nx nx' H' := hf _ _ _ _ _ _ _ h

theorem loopN_ext {f : Env → S → Hp → R} (hf : FExt f) : ∀ n, FExt (loopN f n)
  | 0 => fun _ _ _ _ _ _ _ h => by simp [loopN] at h
  | n + 1 => fun e e' nx nx' H H' x h => by
    simp only [loopN] at h
    split at h
    · rename_i h1; exact (hf.ap h1).trans ((loopN_ext hf n).ap h)
    · exact hf.ap h
theorem evalC_ext {call : Caller} (hcw : CallWF call) (fuel : Nat) : ∀ c : C, FExt (evalC call fuel c)
  | .skip => fun _ _ _ _ _ _ _ h => by simp [evalC] at h; obtain ⟨_, _, rfl, rfl⟩ := h; exact Ext.refl ..
  | .ret => fun _ _ _ _ _ _ _ h => by simp [evalC] at h; obtain ⟨_, _, rfl, rfl⟩ := h; exact Ext.refl ..
  | .exit _ => fun _ _ _ _ _ _ _ h => by simp [evalC] at h; obtain ⟨_, _, rfl, rfl⟩ := h; exact Ext.refl ..
  | .seq a b => fun _ _ _ _ _ _ _ h => by
    simp only [evalC] at h
    split at h
    · rename_i h1; exact ((evalC_ext hcw fuel a).ap h1).trans ((evalC_ext hcw fuel b).ap h)
    · exact (evalC_ext hcw fuel a).ap h
  | .cond _ a b => fun _ _ _ _ _ _ _ h => by
    simp only [evalC] at h
    split at h
    · exact (evalC_ext hcw fuel a).ap h
    · exact (evalC_ext hcw fuel b).ap h
    · simp at h
  | .block _ c => fun _ _ _ _ _ _ _ h => by
    simp only [evalC] at h
    split at h
    · rename_i h1
      split at h <;> simp at h <;> obtain ⟨_, _, rfl, rfl⟩ := h <;> exact (evalC_ext hcw fuel c).ap h1
    · exact (evalC_ext hcw fuel c).ap h
  | .loop c => fun _ _ _ _ _ _ _ h => by
    simp only [evalC] at h
    exact (loopN_ext (evalC_ext hcw fuel c) fuel).ap h
  | .reg _ => fun _ _ _ _ _ _ _ h => by simp only [evalC] at h; exact (runOps_ext hcw h).2
  | .dreg _ _ => fun _ _ _ _ _ _ _ h => by
    simp only [evalC] at h
    split at h
    · rename_i h1
      split at h <;> simp at h; obtain ⟨_, _, rfl, rfl⟩ := h; exact (runOps_ext hcw h1).2
    · simp at h
  | .rfunc f ps ag bd => fun e e' nx nx' H H' x h => by
    simp only [evalC] at h
    split at h
    case h_2 => simp at h
    rename_i v nx1 H1 h1
    unfold rangeA at h1
    split at h1
    case h_2 => simp at h1
    have e1 := (Ext.new (H := H) (nx := nx) (.loop .ready none e ps ag bd)).trans (hcw _ _ _ _ _ _ _ h1)
    have fin : ∀ ob o, H1.get nx = some o → Ext H nx nx1 (H1.set nx ob) := fun ob o ho => e1.trans (Ext.old ho ob (Nat.le_refl _))
    split at h
    case h_2 => simp at h
    rename_i hg
    split at h
    · simp at h
    · split at h <;> simp at h <;> (obtain ⟨_, _, rfl, rfl⟩ := h; exact fin _ _ hg)
end
end Go.Ab
