/- Append. -/
import Derived.Test.YtliofffippbaiaaGreatDoorA3
import Derived.Calls
set_option linter.unusedSimpArgs false
set_option linter.unusedVariables false
namespace Go.Ab
open Go
section
variable {P : Program} {ι : Io} {e : Env} {a : Act} {H : Hp} {w : World}

theorem HRel.drawn (h : HRel P ι H w) (d : Nat) : HRel P ι H { w with drawn := d } := ⟨h.obj, h.inj⟩
theorem St.drawn (nx : S) (d : Nat) : St ι H nx nx w ι H { w with drawn := d } :=
  ⟨rfl, rfl, rfl, Nat.le_refl _, Io.le_refl _, fun _ _ => rfl, fun _ _ _ => rfl, fun b ob r p q h h' _ => ⟨b, ob, p, q, h, h'⟩, fun _ _ _ => rfl, Nat.le_refl _⟩
theorem St.next {ι' : Io} {H' : Hp} {w' : World} {nx nx' n2 : S} (h : St ι H nx nx' w ι' H' w') (hn : nx'.toNat ≤ n2.toNat) : St ι H nx n2 w ι' H' w' :=
  ⟨h.tape, h.os, h.output, h.size, h.le, fun b hb => h.out b (by omega), h.keep, h.sub, fun b hb => h.pres b (by omega), Nat.le_trans h.nxle hn⟩
/-- a block is forgotten -/
theorem del_step (hH : HRel P ι H w) {b : S} (hb : ι b ≠ none) (nx : S) : HRel P ι (H.del b) w ∧ St ι H nx nx w ι (H.del b) w := by
  have hsub : ∀ c o, (H.del b).get c = some o → H.get c = some o := by
    intro c o h
    rw [Tr.get_del] at h
    split at h
    · simp at h
    · exact h
  exact ⟨⟨fun c o h => hH.obj c o (hsub c o h), fun c o c' o' h h' => hH.inj c o c' o' (hsub c o h) (hsub c' o' h')⟩,
    rfl, rfl, rfl, Nat.le_refl _, Io.le_refl _, fun _ _ => rfl, fun _ _ _ => rfl, fun c o r p q h h' _ => ⟨c, o, p, q, hsub c o h, h'⟩,
    fun c _ hn => by rw [Tr.get_del, if_neg]; rintro rfl; exact hb hn, Nat.le_refl _⟩
/-- a block is forgotten, and a part of its row taken over under a new name -/
theorem adopt_step (hH : HRel P ι H w) {b : S} {ob ob' : Ob} (hb : H.get b = some ob) {r p q p' : Nat} (hi : ι b = some (r, p, q)) {id : S} (hid : ι id = none) {w' : World}
    (hr : ORel P (ι.add id (r, p', q)) ob' p' q w'.heap[r]?)
    (hsz : w'.heap.size = w.heap.size) (hoth : ∀ r', r' ≠ r → w'.heap[r']? = w.heap[r']?) (ht : w'.tape = w.tape) (hos : w'.os = w.os) (hout : w'.output = w.output) :
    HRel P (ι.add id (r, p', q)) ((H.del b).set id ob') w' ∧ St ι H id id.succ w (ι.add id (r, p', q)) ((H.del b).set id ob') w' := by
  have hle := Io.le_add (ι := ι) (id := id) (x := (r, p', q)) hid
  have hget : ∀ c o, ((H.del b).set id ob').get c = some o → (c = id ∧ o = ob') ∨ (c ≠ id ∧ c ≠ b ∧ H.get c = some o) := by
    intro c o h
    rw [Tr.get_set] at h
    split at h
    · simp at h; rename_i e; exact .inl ⟨e, h.symm⟩
    · rw [Tr.get_del] at h
      split at h
      · simp at h
      · rename_i e1 e2; exact .inr ⟨e1, e2, h⟩
  have hadd : ∀ c, c ≠ id → (ι.add id (r, p', q)) c = ι c := fun c h => by unfold Io.add; rw [if_neg h]
  have hadd0 : (ι.add id (r, p', q)) id = some (r, p', q) := by unfold Io.add; rw [if_pos rfl]
  refine ⟨⟨fun c o hc r1 p1 q1 h1 => ?_, fun c o c' o' hc hc' r1 p1 q1 p1' q1' h1 h1' => ?_⟩, ht, hos, hout, by omega, hle, fun c hc => hadd c (succ_between hc), fun r1 hr1 hn => ?_, fun c o r1 p1 q1 hc h1 hlt => ?_, fun c hc hn => ?_, by rw [S.toNat_succ]; omega⟩
  · rcases hget c o hc with ⟨rfl, rfl⟩ | ⟨h2, h3, h4⟩
    · rw [hadd0] at h1; simp at h1; obtain ⟨rfl, rfl, rfl⟩ := h1; exact hr
    · rw [hadd c h2] at h1
      have : r1 ≠ r := by
        rintro rfl
        exact h3 (hH.inj c o b ob h4 hb r1 p1 q1 p q h1 hi)
      rw [hoth r1 this]; exact (hH.obj c o h4 r1 p1 q1 h1).mono hle
  · rcases hget c o hc with ⟨rfl, rfl⟩ | ⟨h2, h3, h4⟩ <;> rcases hget c' o' hc' with ⟨rfl, rfl⟩ | ⟨h2', h3', h4'⟩
    · rfl
    · rw [hadd0] at h1; simp at h1; obtain ⟨rfl, rfl, rfl⟩ := h1
      rw [hadd c' h2'] at h1'
      exact absurd (hH.inj c' o' b ob h4' hb _ _ _ _ _ h1' hi) h3'
    · rw [hadd0] at h1'; simp at h1'; obtain ⟨rfl, rfl, rfl⟩ := h1'
      rw [hadd c h2] at h1
      exact absurd (hH.inj c o b ob h4 hb _ _ _ _ _ h1 hi) h3
    · rw [hadd c h2] at h1; rw [hadd c' h2'] at h1'
      exact hH.inj c o c' o' h4 h4' r1 p1 q1 p1' q1' h1 h1'
  · exact hoth r1 (by rintro rfl; exact hn b ob p q hb hi)
  · rcases hget c o hc with ⟨rfl, rfl⟩ | ⟨h2, h3, h4⟩
    · rw [hadd0] at h1; simp at h1; obtain ⟨rfl, rfl, rfl⟩ := h1; exact ⟨b, ob, p, q, hb, hi⟩
    · rw [hadd c h2] at h1; exact ⟨c, o, p1, q1, h4, h1⟩
  · rw [Tr.get_set, if_neg (succ_between hc), Tr.get_del, if_neg]
    rintro rfl; rw [hi] at hn; simp at hn

/-- the last part of the model's append -/
def appTail (zeros : Bool) (elem : TypeId) (base : Option Addr) (sLen sCap size n : Nat) (s x : Value) (appended : Sem (Array Value)) : Sem Value := do
  let need := sLen + n
  if need ≤ sCap then
    let new ← appended
    if let some a := base then storeCells (a.add (sLen * size)) new.toList
    pure (.slice base need sCap)
  else
    if (need : Int) > IntKind.i64.max ∧ (zeros ∨ (← typeInfo elem).bytes = 0) then runtimePanic (.error "growslice: len out of range")
    if Builtin.nextslicecap need sCap * (← typeInfo elem).bytes > 2 ^ 48 then (if zeros then runtimePanic (.error "growslice: len out of range") else do
      if !(← Builtin.mayShare size sLen n base x) then mark .noRoom
      unsupported (.resourceLimit "append: a slice or a string whose bytes no memory bears"))
    let newCap ← choose (.appendCap need sCap elem)
    askRoom (newCap * (← typeInfo elem).bytes)
    let old ← Builtin.firstCells size sLen s
    let new ← appended
    let rest := Builtin.zeroCells (← zeroValue elem).cells (newCap - need)
    pure (.slice (some (← newRow elem (old ++ new ++ rest))) need newCap)

theorem nextcap_le (need cap : Nat) (h : cap < need) : Builtin.nextslicecap need cap ≤ 2 * need + 1000 := by
  have hg : ∀ rounds c, c ≤ 2 * need + 1000 → Builtin.growBy need rounds c ≤ 2 * need + 1000 := by
    intro rounds
    induction rounds with
    | zero => intro c hc; exact hc
    | succ n ih =>
      intro c hc
      unfold Builtin.growBy
      split
      · exact hc
      · rename_i hlt
        exact ih _ (by omega)
  unfold Builtin.nextslicecap
  split
  · omega
  · split
    · omega
    · exact hg 4 cap (by omega)

section tail
variable {el : TypeId} {size bytes : Nat} {z : List AV}
/-- the row is laid anew -/
theorem tail_new (hs : sizeT P el = some size) (hb : bytesT P el = some bytes) (hz : zeroA P el = some z) (hzl : z.length = size) (hs0 : 0 < size) (hb0 : 0 < bytes) (hH : HRel P ι H w) {id : S} (hid : ι id = none)
    {zeros : Bool} {base : Option Addr} {sLen sCap n : Nat} {s x : Value} {appended : Sem (Array Value)} {xs ys : List AV} {xvs yvs : List Value}
    (hx : VRels ι xs xvs) (hxl : xvs.length = sLen * size) (hold : ∀ d, (Builtin.firstCells size sLen s).run P { w with drawn := d } = .ok xvs.toArray { w with drawn := d })
    (hy : VRels ι ys yvs) (hyl : yvs.length = n * size) (hap : ∀ d, appended.run P { w with drawn := d } = .ok yvs.toArray { w with drawn := d })
    (hcap : sCap < sLen + n) (hlim : sLen + n ≤ 2 ^ 30) (hlim2 : (sLen + n) * bytes ≤ 2 ^ 36) :
    ∃ ι' w' u, (appTail zeros el base sLen sCap size n s x appended).run P w = .ok u w' ∧ VRel ι' (.slice size id 0 (sLen + n) (.upto (sLen + n))) u ∧ HRel P ι' (H.set id (.cells (xs ++ ys))) w' ∧
      St ι H id id.succ w ι' (H.set id (.cells (xs ++ ys))) w' := by
  obtain ⟨i, hi, hib⟩ : ∃ i, P.info? el = some i ∧ i.bytes = bytes := by
    unfold bytesT at hb
    split at hb
    · rename_i i hi; simp at hb; exact ⟨i, hi, hb⟩
    · simp at hb
  have hcut : sLen + n ≤ (Question.appendCap (sLen + n) sCap el).cut (w.tape w.drawn (.appendCap (sLen + n) sCap el)) := by simp [Question.cut]
  generalize hcp : (Question.appendCap (sLen + n) sCap el).cut (w.tape w.drawn (.appendCap (sLen + n) sCap el)) = cap at hcut
  obtain ⟨zv, h1, h2⟩ := run_zero (ι := ι) hz { w with drawn := w.drawn + 1 }
  have hzs : zv.cells.size = size := by have := h2.length; simp at this; omega
  have hnext := nextcap_le (sLen + n) sCap hcap
  have hbig : ¬ Builtin.nextslicecap (sLen + n) sCap * bytes > 2 ^ 48 := by
    have e1 : Builtin.nextslicecap (sLen + n) sCap * bytes ≤ (2 * (sLen + n) + 1000) * bytes := Nat.mul_le_mul_right _ hnext
    have e2 : (2 * (sLen + n) + 1000) * bytes ≤ (1002 * (sLen + n)) * bytes := Nat.mul_le_mul_right _ (by omega)
    have e3 : (1002 * (sLen + n)) * bytes = 1002 * ((sLen + n) * bytes) := Nat.mul_assoc _ _ _
    have e4 : 1002 * ((sLen + n) * bytes) ≤ 1002 * 2 ^ 36 := Nat.mul_le_mul_left _ hlim2
    omega
  have hint : ¬ (((sLen + n : Nat) : Int) > IntKind.i64.max ∧ (zeros = true ∨ bytes = 0)) := by
    have : IntKind.i64.max = 9223372036854775807 := by decide
    rw [this]; omega
  let rest := Builtin.zeroCells zv.cells (cap - (sLen + n))
  have hrest : rest.size = (cap - (sLen + n)) * size := by simp [rest, Builtin.zeroCells, hzs]
  let row : Array Value := xvs.toArray ++ yvs.toArray ++ rest
  have hrow : row = ((xvs ++ yvs) ++ rest.toList).toArray := by
    apply Array.ext'; simp [row]
  have hq : row.size = cap * size := by
    have e1 : (sLen + n) * size = sLen * size + n * size := Nat.add_mul _ _ _
    have e2 : (cap - (sLen + n)) * size + (sLen + n) * size = cap * size := by rw [← Nat.add_mul]; congr 1; omega
    simp only [row, Array.size_append, List.size_toArray, hxl, hyl, hrest]; omega
  have hrel : VRels (ι.add id (w.heap.size, 0, cap * size)) (xs ++ ys) (xvs ++ yvs) := (hx.append hy).mono (Io.le_add hid)
  have ho : ORel P (ι.add id (w.heap.size, 0, cap * size)) (.cells (xs ++ ys)) 0 (cap * size) (some (.cells row el)) := by
    have := cells_ORel (P := P) hrel rest.toList (el := el) (fz := (0, 0)) (.inl rfl)
    rw [← hrow] at this
    have e : (xvs ++ yvs ++ rest.toList).length = cap * size := by rw [← hq, hrow]; simp
    rwa [e] at this
  obtain ⟨k1, k2⟩ := alloc_step hH hid ho (w.drawn + 1)
  refine ⟨_, _, .slice (some ⟨w.heap.size, 0, none⟩) (sLen + n) cap, ?_, VRel.slice_add ⟨Nat.le_refl _, hcut⟩ (Nat.le_refl _), k1, k2⟩
  have hle : ¬ (sLen + n ≤ sCap) := by omega
  simp only [appTail, if_neg hle, Sem.run_bind, run_ti hi, Result.andThen_ok, hib, if_neg hint, if_neg hbig, Sem.run_pure, run_choose, Question.forced, Bool.false_eq_true, if_false, hcp, run_askRoom,
    hold (w.drawn + 1), hap (w.drawn + 1), h1, newRow_run]
  rfl
end tail
end
end Go.Ab
/- Append, all ways. -/
set_option linter.unusedSimpArgs false
set_option linter.unusedVariables false
namespace Go.Ab
open Go
section
variable {P : Program} {ι : Io} {e : Env} {a : Act} {H : Hp} {w : World}
variable {el : TypeId} {size bytes : Nat} {z : List AV}

theorem world_eta (w : World) : ({ w with drawn := w.drawn } : World) = w := rfl
/-- what the tail comes to -/
def TailOk (P : Program) (ι : Io) (H : Hp) (id : S) (w : World) (s : Sem Value) (r : AV) (H' : Hp) : Prop :=
  ∃ ι' w' u, s.run P w = .ok u w' ∧ VRel ι' r u ∧ HRel P ι' H' w' ∧ St ι H id id.succ w ι' H' w'
theorem St.here (id : S) : St ι H id id.succ w ι H w := (St.refl ι H id w).next (by rw [S.toNat_succ]; omega)

/-- nothing is appended, or there is room that is known -/
theorem tail_room {zeros : Bool} {ad : Addr} {sLen sCap n : Nat} {s x : Value} {appended : Sem (Array Value)} {yvs : List Value}
    (hap : ∀ d, appended.run P { w with drawn := d } = .ok yvs.toArray { w with drawn := d }) (hcap : sLen + n ≤ sCap) {w' : World}
    (hst : (storeCells (ad.add (sLen * size)) yvs).run P w = .ok () w') :
    (appTail zeros el (some ad) sLen sCap size n s x appended).run P w = .ok (.slice (some ad) (sLen + n) sCap) w' := by
  have h1 : appended.run P w = .ok yvs.toArray w := hap w.drawn
  simp only [appTail, if_pos hcap, Sem.run_bind, h1, Result.andThen_ok, Sem.run_pure]
  rw [hst]
  rfl
theorem cellsOf_get {b : S} {cs : List AV} (h : cellsOf H b = some cs) : H.get b = some (.cells cs) := by
  unfold cellsOf at h
  split at h <;> simp at h
  subst h; assumption
theorem old_run (hH : HRel P ι H w) {b : S} {cs xs : List AV} (hb : cellsOf H b = some cs) {r p q : Nat} (hi : ι b = some (r, p, q)) {o n size cap : Nat} {ad : Addr} (hx : rowOf cs o (n * size) = some xs)
    (had : cap = 0 ∨ (ad = ⟨r, p + o, none⟩ ∧ p + o + cap * size ≤ q)) (hn : n ≤ cap) :
    ∃ xvs : List Value, xvs.length = n * size ∧ VRels ι xs xvs ∧ ∀ d, (Builtin.firstCells size n (.slice (some ad) n cap)).run P { w with drawn := d } = .ok xvs.toArray { w with drawn := d } := by
  rcases had with h0 | ⟨rfl, _⟩
  · have hn0 : n = 0 := by omega
    subst hn0
    have := rowOf_some hx
    simp only [Nat.zero_mul] at this
    have hl0 : xs = [] := List.eq_nil_of_length_eq_zero this.2.1
    subst hl0
    exact ⟨[], by simp, rfl, fun d => by simp [Builtin.firstCells, loadCells, loadCellsFrom]⟩
  · obtain ⟨vs, h1, h2, h3⟩ := hH.rowd hb hi hx
    exact ⟨vs, h1, h2, fun d => by simp only [Builtin.firstCells, h3 d]⟩

theorem append_tail (hs : sizeT P el = some size) (hb : bytesT P el = some bytes) (hz : zeroA P el = some z) (hzl : z.length = size) (hs0 : 0 < size) (hb0 : 0 < bytes) (hH : HRel P ι H w) {id : S} (hid : ι id = none)
    {zeros : Bool} {sv x : Value} {xa : AV} (hv : VRel ι xa sv) {m : Nat} {appended : Sem (Array Value)} {ys : List AV} {yvs : List Value}
    (hy : VRels ι ys yvs) (hyl : yvs.length = m * size) (hap : ∀ d, appended.run P { w with drawn := d } = .ok yvs.toArray { w with drawn := d })
    {r : AV} {H' : Hp} (hr : appendA size bytes xa m ys id H = some (r, H')) :
    ∃ base sLen sCap, sv = .slice base sLen sCap ∧ TailOk P ι H id w (appTail zeros el base sLen sCap size m sv x appended) r H' := by
  unfold appendA at hr
  split at hr
  · -- nil
    simp only [VRel] at hv; subst hv
    refine ⟨none, 0, 0, rfl, ?_⟩
    split at hr
    · rename_i hm
      simp only [Option.some.injEq, Prod.mk.injEq] at hr; obtain ⟨rfl, rfl⟩ := hr
      subst hm
      refine ⟨ι, w, .slice none 0 0, ?_, rfl, hH, St.here id⟩
      have h1 : appended.run P w = .ok yvs.toArray w := hap w.drawn
      simp [appTail, h1]
    · rename_i hm
      split at hr
      case isFalse => simp at hr
      rename_i hc
      simp only [Option.some.injEq, Prod.mk.injEq] at hr; obtain ⟨rfl, rfl⟩ := hr
      have := tail_new (P := P) (zeros := zeros) (base := none) (sLen := 0) (sCap := 0) (n := m) (s := .slice none 0 0) (x := x) (xs := []) (xvs := []) hs hb hz hzl hs0 hb0 hH hid rfl (by simp) (fun d => by simp [Builtin.firstCells]) hy hyl hap (by omega) (by omega) (by simpa using hc.2)
      simp only [Nat.zero_add, List.nil_append] at this
      exact this
  · -- a capacity that is known
    rename_i zz b o n c
    obtain ⟨r0, p, q, ad, cap, hi, rfl, hcap, had⟩ := hv
    obtain ⟨rfl, hnc⟩ := hcap
    refine ⟨some ad, n, cap, rfl, ?_⟩
    split at hr
    case isFalse => simp at hr
    rename_i hzs; subst hzs
    split at hr
    · rename_i hroom
      split at hr
      · rename_i hm; subst hm
        simp only [Option.some.injEq, Prod.mk.injEq] at hr; obtain ⟨rfl, rfl⟩ := hr
        have : yvs = [] := List.eq_nil_of_length_eq_zero (by simpa using hyl)
        subst this
        exact ⟨ι, w, .slice (some ad) n cap, tail_room hap hroom rfl, ⟨r0, p, q, ad, cap, hi, rfl, ⟨rfl, hnc⟩, had⟩, hH, St.here id⟩
      · rename_i hm
        unfold appendIn at hr
        split at hr
        case h_2 => simp at hr
        rename_i t ht
        split at hr
        case h_2 => simp at hr
        rename_i t' ht'
        simp only [Option.some.injEq, Prod.mk.injEq] at hr; obtain ⟨rfl, rfl⟩ := hr
        obtain ⟨rfl, hq⟩ := had.resolve_left (by omega)
        obtain ⟨w', k1, k2, k3⟩ := stores_run hH ht hi ht' hy (nx := id) (nx' := id.succ) (by rw [S.toNat_succ]; omega)
        refine ⟨ι, w', .slice (some ⟨r0, p + o, none⟩) (n + m) cap, tail_room hap hroom (by rw [add_off, Nat.add_assoc]; exact k1), ⟨r0, p, q, _, cap, hi, rfl, ⟨rfl, hroom⟩, .inr ⟨rfl, hq⟩⟩, k2, k3⟩
    · rename_i hroom
      split at hr
      case isFalse => simp at hr
      rename_i hc
      split at hr
      case h_2 => simp at hr
      rename_i t ht
      split at hr
      case h_2 => simp at hr
      rename_i xs hxs
      simp only [Option.some.injEq, Prod.mk.injEq] at hr; obtain ⟨rfl, rfl⟩ := hr
      obtain ⟨xvs, g1, g2, g3⟩ := old_run hH ht hi hxs had hnc
      exact tail_new (P := P) (sCap := cap) hs hb hz hzl hs0 hb0 hH hid g2 g1 g3 hy hyl hap (by omega) hc.1 hc.2
  · -- a capacity that is not known
    rename_i zz b o n lb
    obtain ⟨r0, p, q, ad, cap, hi, rfl, hcap, had⟩ := hv
    obtain ⟨hnlb, hlb⟩ := hcap
    refine ⟨some ad, n, cap, rfl, ?_⟩
    split at hr
    case isFalse => simp at hr
    rename_i hzs; subst hzs
    split at hr
    · rename_i hroom
      split at hr
      · rename_i hm; subst hm
        simp only [Option.some.injEq, Prod.mk.injEq] at hr; obtain ⟨rfl, rfl⟩ := hr
        have : yvs = [] := List.eq_nil_of_length_eq_zero (by simpa using hyl)
        subst this
        exact ⟨ι, w, .slice (some ad) n cap, tail_room hap (by omega) rfl, ⟨r0, p, q, ad, cap, hi, rfl, ⟨hnlb, hlb⟩, had⟩, hH, St.here id⟩
      · rename_i hm
        unfold appendIn at hr
        split at hr
        case h_2 => simp at hr
        rename_i t ht
        split at hr
        case h_2 => simp at hr
        rename_i t' ht'
        simp only [Option.some.injEq, Prod.mk.injEq] at hr; obtain ⟨rfl, rfl⟩ := hr
        obtain ⟨rfl, hq⟩ := had.resolve_left (by omega)
        obtain ⟨w', k1, k2, k3⟩ := stores_run hH ht hi ht' hy (nx := id) (nx' := id.succ) (by rw [S.toNat_succ]; omega)
        refine ⟨ι, w', .slice (some ⟨r0, p + o, none⟩) (n + m) cap, tail_room hap (by omega) (by rw [add_off, Nat.add_assoc]; exact k1), ⟨r0, p, q, _, cap, hi, rfl, ⟨hroom, hlb⟩, .inr ⟨rfl, hq⟩⟩, k2, k3⟩
    · rename_i hroom
      split at hr
      case isFalse => simp at hr
      rename_i hc
      split at hr
      case h_2 => simp at hr
      rename_i t ht
      split at hr
      case isFalse => simp at hr
      rename_i hu8
      split at hr
      case h_2 => simp at hr
      rename_i xs hxs
      simp only [Option.some.injEq, Prod.mk.injEq] at hr; obtain ⟨rfl, rfl⟩ := hr
      obtain ⟨xvs, g1, g2, g3⟩ := old_run hH ht hi hxs had (by omega)
      have hib : ι b ≠ none := by rw [hi]; simp
      by_cases hin : n + m ≤ cap
      · -- there is room after all
        obtain ⟨rfl, hq⟩ := had.resolve_left (by omega)
        obtain ⟨c, el', fz, k1, k2, k3, k4, k5, k6⟩ := hH.cells ht hi
        obtain ⟨j1, j2, j3⟩ := rowOf_some hxs
        have hmul : (n + m) * zz ≤ cap * zz := Nat.mul_le_mul_right _ hin
        have hadd : (n + m) * zz = n * zz + m * zz := Nat.add_mul _ _ _
        have hone : ∀ v ∈ yvs, v.oneCell' = true := hy.mem_one (fun v hv => by
          have := hc.2.2
          rw [List.all_eq_true] at this
          exact this v hv)
        obtain ⟨w', c', s1, s2, s3, s4, s5, s6, s7, s8, s9, s10⟩ := storeCells_run (P := P) yvs 0 r0 (p + o + n * zz) w c el' fz k1 (by omega) hone (fun i hi1 hi2 => k5 i (by omega) (by omega))
        have hle := Io.le_add (ι := ι) (id := id) (x := (r0, p + o, q)) hid
        have hyl2 := hy.length
        have ho : ORel P (ι.add id (r0, p + o, q)) (.cells (xs ++ ys)) (p + o) q w'.heap[r0]? := by
          refine ⟨c', el', fz, s2, by omega, by simp only [List.length_append, j2, ← hyl2]; omega, fun i x hx => ?_, fun i hi1 hi2 => k5 i (by omega) hi2, fun m1 m2 => ?_⟩
          rotate_left
          · obtain ⟨m3, m4⟩ := k6 m1 m2
            have hys : ∀ y ∈ ys, isU8 y = true := by
              cases t with
              | nil => exact absurd rfl m3
              | cons x0 t0 =>
                simp only [uOk, m4 x0 (by simp), cond_true, List.all_eq_true] at hu8
                exact hu8
            have hpos : 0 < m * zz := Nat.mul_pos (by omega) hs0
            refine ⟨fun e => ?_, fun x hx => ?_⟩
            · have := congrArg List.length e
              simp only [List.length_append, List.length_nil] at this
              omega
            · rw [List.mem_append] at hx
              rcases hx with hx | hx
              · obtain ⟨i, hi', e⟩ := List.getElem_of_mem hx
                have h8 := j3 i (by omega)
                rw [List.getElem?_eq_getElem hi', e] at h8
                exact m4 x (List.mem_of_getElem? h8.symm)
              · exact hys x hx
          rw [s4]
          by_cases hlt : i < n * zz
          · rw [List.getElem?_append_left (by omega), j3 i hlt] at hx
            rw [if_neg (by omega)]
            obtain ⟨y, hy1, hy2⟩ := k4 (o + i) x hx
            exact ⟨y, by rw [show p + o + i = p + (o + i) by omega]; exact hy1, hy2.mono hle⟩
          · rw [List.getElem?_append_right (by omega)] at hx
            obtain ⟨y, hy1, hy2⟩ := hy.get _ _ hx
            have : i - xs.length < yvs.length := (List.getElem?_eq_some_iff.1 hy1).1
            rw [if_pos (by omega)]
            exact ⟨y, by rw [show p + o + i - (p + o + n * zz + 0) = i - xs.length by omega]; exact hy1, hy2.mono hle⟩
        obtain ⟨a1, a2⟩ := adopt_step hH (cellsOf_get ht) hi hid ho s5 s6 s7 s8 s9
        refine ⟨_, w', .slice (some ⟨r0, p + o, none⟩) (n + m) cap, tail_room hap hin (by rw [add_off]; exact s1), ?_, a1, a2⟩
        exact ⟨r0, p + o, q, _, cap, by simp [Io.add], rfl, ⟨Nat.le_refl _, hin⟩, .inr ⟨rfl, by omega⟩⟩
      · obtain ⟨d1, d2⟩ := del_step hH hib id
        obtain ⟨ι', w', u, t1, t2, t3, t4⟩ := tail_new (P := P) (zeros := zeros) (base := some ad) (sCap := cap) (s := .slice (some ad) n cap) (x := x) hs hb hz hzl hs0 hb0 d1 hid g2 g1 g3 hy hyl hap (by omega) hc.1 hc.2.1
        exact ⟨ι', w', u, t1, t2, t3, d2.trans t4⟩
  · simp at hr
end
end Go.Ab
/- Operations that write memory. -/
set_option linter.unusedSimpArgs false
set_option linter.unusedVariables false
namespace Go.Ab
open Go
section
variable {P : Program} {ι : Io} {e : Env} {a : Act} {H : Hp} {w : World}

/-- the elements of what is appended or copied -/
theorem elems_run (hH : HRel P ι H w) {size : Nat} {ya : AV} {yv : Value} (hv : VRel ι ya yv) {m : Nat} {ys : List AV} (hr : elemsOf H size ya = some (m, ys)) :
    (Builtin.lenOf yv).run P w = .ok m w ∧ ∃ yvs : List Value, yvs.length = m * size ∧ VRels ι ys yvs ∧
      ∀ k d, k ≤ m → (Builtin.firstCells size k yv).run P { w with drawn := d } = .ok (yvs.take (k * size)).toArray { w with drawn := d } := by
  unfold elemsOf at hr
  split at hr
  · simp only [VRel] at hv; subst hv
    simp only [Option.some.injEq, Prod.mk.injEq] at hr; obtain ⟨rfl, rfl⟩ := hr
    exact ⟨by simp [Builtin.lenOf], [], by simp, rfl, fun k d hk => by simp [Builtin.firstCells]⟩
  · rename_i z b o n c
    split at hr
    case isFalse => simp at hr
    rename_i hz; subst hz
    split at hr
    case h_2 => simp at hr
    rename_i cs hcs
    split at hr
    case h_2 => simp at hr
    rename_i l hl
    simp only [Option.some.injEq, Prod.mk.injEq] at hr; obtain ⟨rfl, rfl⟩ := hr
    obtain ⟨r, p, q, ad, cap, hi, rfl, hcap, had⟩ := hv
    refine ⟨by simp [Builtin.lenOf], ?_⟩
    rcases had with h0 | ⟨rfl, _⟩
    · have hn : n = 0 := by cases c <;> simp only [CapRel] at hcap <;> omega
      subst hn
      have := rowOf_some hl
      simp only [Nat.zero_mul] at this
      have hl0 : l = [] := List.eq_nil_of_length_eq_zero this.2.1
      subst hl0
      refine ⟨[], by simp, rfl, fun k d hk => ?_⟩
      have : k = 0 := by omega
      subst this
      simp [Builtin.firstCells, loadCells, loadCellsFrom]
    · obtain ⟨vs, h1, h2, h3⟩ := hH.rowk hcs hi hl
      exact ⟨vs, h1, h2, fun k d hk => by simp only [Builtin.firstCells, h3 d (k * z) (Nat.mul_le_mul_right _ hk)]⟩
  · rename_i s
    split at hr
    case isFalse => simp at hr
    rename_i hz; subst hz
    simp only [Option.some.injEq, Prod.mk.injEq] at hr; obtain ⟨rfl, rfl⟩ := hr
    simp only [VRel] at hv; subst hv
    refine ⟨by simp [Builtin.lenOf], s.data.toList.map fun b => .int .u8 b.toNat, by simp, ?_, fun k d hk => ?_⟩
    · refine VRels.of_get (by simp) fun i x hx => ?_
      simp only [List.getElem?_map, Option.map_eq_some_iff] at hx ⊢
      obtain ⟨b, hb, rfl⟩ := hx
      exact ⟨_, ⟨b, hb, rfl⟩, rfl⟩
    · simp only [Builtin.firstCells, Sem.run_pure, Nat.mul_one]
      congr 1
      apply Array.ext'
      simp [ByteArray.data_extract, List.map_take]
  · simp at hr

/-! store -/
theorem store_run (hH : HRel P ι H w) {av xv : Value} {b : S} {o n : Nat} {xa : AV} (hv : VRel ι (.ptr b o) av) (hx : VRel ι xa xv) (hn : xa.cells.length = n) {cs cs' : List AV} (hcs : cellsOf H b = some cs)
    (hst : storeL cs o xa.cells = some cs') {t : TypeId} (ht : sizeT P t = some n) {nx nx' : S} (hnx : nx.toNat ≤ nx'.toNat) :
    ∃ w', (Instr.storeAt t av xv).run P w = .ok () w' ∧ HRel P ι (H.set b (.cells cs')) w' ∧ St ι H nx nx' w ι (H.set b (.cells cs')) w' := by
  obtain ⟨r, p, q, hi, rfl⟩ := hv
  have hxc := hx.cells
  have hl := hxc.length
  simp only [Array.length_toList] at hl
  obtain ⟨w', k1, k2, k3⟩ := stores_run (P := P) hH hcs hi hst hxc hnx
  refine ⟨w', ?_, k2, k3⟩
  have : ¬ (xv.cells.size ≠ n) := by omega
  simp only [Instr.storeAt, Instr.sureAddr, Sem.run_bind, Sem.run_pure, Result.andThen_ok, storeVar, run_size ht, if_neg this, k1]

/-! append -/
theorem append_eq {ts : Array TypeId} {t t' el ty : TypeId} {d : TypeDesc} (hts : ts = #[t, t']) (hu : P.underlying t = some (.slice el)) (hu' : P.underlying t' = some d) (hd : ∀ k, d ≠ .int k) {size : Nat} (hs : sizeT P el = some size)
    {base : Option Addr} {sLen sCap m : Nat} {yv : Value} (hl : (Builtin.lenOf yv).run P w = .ok m w) :
    (Builtin.append_ ts ty #[.slice base sLen sCap, yv]).run P w = (appTail false el base sLen sCap size m (.slice base sLen sCap) yv (Builtin.firstCells size m yv)).run P w := by
  subst hts
  have e0 : (#[t, t'] : Array TypeId)[0]? = some t := rfl
  have e1 : (#[t, t'] : Array TypeId)[1]? = some t' := rfl
  have e2 : (#[Value.slice base sLen sCap, yv] : Array Value)[0]? = some (.slice base sLen sCap) := rfl
  have e3 : (#[Value.slice base sLen sCap, yv] : Array Value)[1]? = some yv := rfl
  simp only [Builtin.append_, e0, e1, e2, e3, Sem.run_bind, run_und hu, Result.andThen_ok, run_size hs, run_und hu', Sem.run_pure]
  cases d <;> first
    | exact absurd rfl (hd _)
    | (simp only [Bool.false_eq_true, if_false, Sem.run_bind, hl, Result.andThen_ok, Bool.not_false, if_true, appTail, false_or]; rfl)
theorem appendz_eq {ts : Array TypeId} {t t' el ty : TypeId} {ik : IntKind} (hts : ts = #[t, t']) (hu : P.underlying t = some (.slice el)) (hu' : P.underlying t' = some (.int ik)) {size bytes : Nat} (hs : sizeT P el = some size) (hb : bytesT P el = some bytes)
    {base : Option Addr} {sLen sCap : Nat} {k : IntKind} {n : Int} (h0 : 0 ≤ n) (h1 : n ≤ 2 ^ 30) (h2 : n.toNat * bytes ≤ 2 ^ 36) :
    (Builtin.append_ ts ty #[.slice base sLen sCap, .int k n]).run P w = (appTail true el base sLen sCap size n.toNat (.slice base sLen sCap) (.int k n)
      (if n.toNat * size = 0 then pure #[] else do pure (Builtin.zeroCells (← zeroValue el).cells n.toNat))).run P w := by
  subst hts
  obtain ⟨i, hi, hib⟩ : ∃ i, P.info? el = some i ∧ i.bytes = bytes := by
    unfold bytesT at hb
    split at hb
    · rename_i i hi; simp at hb; exact ⟨i, hi, hb⟩
    · simp at hb
  have hw : IntKind.i64.wrap n = n := wrap_id (by omega) (by omega)
  have hneg : ¬ n < 0 := by omega
  have hbig : ¬ (n * (bytes : Int) > 2 ^ 48) := by
    have e1 : n * (bytes : Int) = ((n.toNat * bytes : Nat) : Int) := by
      rw [Int.natCast_mul, Int.toNat_of_nonneg h0]
    rw [e1]
    have : ((n.toNat * bytes : Nat) : Int) ≤ 2 ^ 36 := by exact_mod_cast h2
    omega
  have e0 : (#[t, t'] : Array TypeId)[0]? = some t := rfl
  have e1 : (#[t, t'] : Array TypeId)[1]? = some t' := rfl
  have e2 : (#[Value.slice base sLen sCap, .int k n] : Array Value)[0]? = some (.slice base sLen sCap) := rfl
  have e3 : (#[Value.slice base sLen sCap, .int k n] : Array Value)[1]? = some (.int k n) := rfl
  simp only [Builtin.append_, e0, e1, e2, e3, Sem.run_bind, run_und hu, Result.andThen_ok, run_size hs, run_und hu', Sem.run_pure, if_true, asInt, asIntOf, hw, if_neg hneg, run_ti hi, hib, if_neg hbig, appTail, Bool.not_true, Bool.false_eq_true, if_false, true_or, and_true]
  rfl
theorem copy_run (hH : HRel P ι H w) {ts : Array TypeId} {t el ty : TypeId} (hts : ts[0]? = some t) (hu : P.underlying t = some (.slice el)) {size : Nat} (hs : sizeT P el = some size) {xv yv : Value} {xa ya : AV} (hx : VRel ι xa xv) (hy : VRel ι ya yv)
    {id : S} {r : AV} {H' : Hp} (hr : copyA size xa ya H = some (r, H')) :
    TailOk P ι H id w (Builtin.copy_ ts ty #[xv, yv]) r H' := by
  unfold copyA at hr
  split at hr
  · simp only [VRel] at hx; subst hx
    split at hr
    case h_2 => simp at hr
    rename_i me hme
    obtain ⟨m, ys⟩ := me
    simp only [Option.some.injEq, Prod.mk.injEq] at hr; obtain ⟨rfl, rfl⟩ := hr
    obtain ⟨h1, yvs, h2, h3, h4⟩ := elems_run (P := P) hH hy hme
    refine ⟨ι, w, .int .i64 0, ?_, rfl, hH, St.here id⟩
    have h5 : (Builtin.firstCells size 0 yv).run P w = .ok #[] w := by have := h4 0 w.drawn (by omega); simpa using this
    simp [Builtin.copy_, hts, run_und hu, h1, run_size hs, h5, goInt]
  · rename_i z b o n c
    split at hr
    case isFalse => simp at hr
    rename_i hz; subst hz
    split at hr
    case h_2 => simp at hr
    rename_i m ys hme
    split at hr
    case h_2 => simp at hr
    rename_i t0 ht0
    split at hr
    case h_2 => simp at hr
    rename_i t1 ht1
    simp only [Option.some.injEq, Prod.mk.injEq] at hr; obtain ⟨rfl, rfl⟩ := hr
    obtain ⟨h1, yvs, h2, h3, h4⟩ := elems_run (P := P) hH hy hme
    obtain ⟨r0, p, q, ad, cap, hi, rfl, hcap, had⟩ := hx
    have h5 : (Builtin.firstCells z (min m n) yv).run P w = .ok (yvs.take (min m n * z)).toArray w := h4 (min m n) w.drawn (Nat.min_le_left _ _)
    have h6 : VRels ι (ys.take (min m n * z)) (yvs.take (min m n * z)) := h3.take _
    have hncap : n ≤ cap := by cases c <;> simp only [CapRel] at hcap <;> omega
    rcases had with h0 | ⟨rfl, _⟩
    · have hmn : min m n = 0 := by omega
      rw [hmn] at h5 h6 ht1
      simp only [Nat.zero_mul, List.take_zero] at h5 h6 ht1
      simp only [storeL, Option.some.injEq] at ht1; subst ht1
      have hg := cellsOf_get ht0
      have hstep := write_step (P := P) hH hg hi (w' := w) (hH.obj b _ hg r0 p q hi) rfl (fun _ _ => rfl) rfl rfl rfl (nx := id) (nx' := id.succ) (by rw [S.toNat_succ]; omega)
      refine ⟨ι, w, .int .i64 ((min m n : Nat) : Int), ?_, rfl, hstep.1, hstep.2⟩
      have hmn' : Nat.min m n = 0 := hmn
      simp [Builtin.copy_, hts, run_und hu, h1, run_size hs, hmn', hmn, h5, goInt, storeCells]
    · obtain ⟨w', k1, k2, k3⟩ := stores_run (P := P) hH ht0 hi ht1 h6 (nx := id) (nx' := id.succ) (by rw [S.toNat_succ]; omega)
      refine ⟨ι, w', .int .i64 ((min m n : Nat) : Int), ?_, rfl, k2, k3⟩
      have hmin : Nat.min m n = min m n := rfl
      simp only [Builtin.copy_, hts, List.getElem?_toArray, List.getElem?_cons_zero, List.getElem?_cons_succ, Sem.run_bind, run_und hu, Result.andThen_ok, h1, run_size hs, hmin, h5, k1, goInt, Sem.run_pure]
  · simp at hr
end
end Go.Ab
/- Maps that are written; all operations that write. -/
set_option linter.unusedSimpArgs false
set_option linter.unusedVariables false
namespace Go.Ab
open Go
section
variable {P : Program} {ι : Io} {e : Env} {a : Act} {H : Hp} {w : World}

theorem ERel.append {ι : Io} : ∀ {es fs : List (AV × AV × Nat)} {l m : List MapEntry}, ERel ι es l → ERel ι fs m → ERel ι (es ++ fs) (l ++ m)
  | [], _, _, _, h, h' => by simp [ERel] at h; subst h; exact h'
  | (k, v, s) :: es, _, _, _, ⟨m, ms, e, h1, h2, h3, h4⟩, h' => by subst e; exact ⟨m, _, rfl, h1, h2, h3, ERel.append h4 h'⟩
theorem ERel.single {ι : Io} {k v : AV} {kv vv : Value} {s : Nat} (hk : VRel ι k kv) (hv : VRel ι v vv) : ERel ι [(k, v, s)] [{ key := kv, val := vv, born := s }] := ⟨_, _, rfl, hk, hv, rfl, rfl⟩
theorem ERel.setAt {ι : Io} : ∀ {es : List (AV × AV × Nat)} {l : List MapEntry} (_ : ERel ι es l) (i : Nat) {k v : AV} {kv vv : Value} (_ : VRel ι k kv) (_ : VRel ι v vv),
    ERel ι (setAt es i k v) (l.modify i fun e => { e with key := kv, val := vv })
  | [], _, h, i, _, _, _, _, _, _ => by simp [ERel] at h; subst h; cases i <;> rfl
  | (k', v', s) :: es, _, ⟨m, ms, e, h1, h2, h3, h4⟩, 0, _, _, _, _, hk, hv => by
    subst e; exact ⟨_, ms, rfl, hk, hv, h3, h4⟩
  | (k', v', s) :: es, _, ⟨m, ms, e, h1, h2, h3, h4⟩, i + 1, _, _, _, _, hk, hv => by
    subst e; exact ⟨m, _, rfl, h1, h2, h3, ERel.setAt h4 i hk hv⟩
theorem ERel.erase {ι : Io} : ∀ {es : List (AV × AV × Nat)} {l : List MapEntry} (_ : ERel ι es l) (i : Nat), ERel ι (es.eraseIdx i) (l.eraseIdx i)
  | [], _, h, i => by simp [ERel] at h; subst h; cases i <;> rfl
  | (k', v', s) :: es, _, ⟨m, ms, e, h1, h2, h3, h4⟩, 0 => by subst e; exact h4
  | (k', v', s) :: es, _, ⟨m, ms, e, h1, h2, h3, h4⟩, i + 1 => by subst e; exact ⟨m, _, rfl, h1, h2, h3, ERel.erase h4 i⟩
theorem ERel.stamp {ι : Io} : ∀ {es es' : List (AV × AV × Nat)} {l : List MapEntry} (_ : ERel ι es l) {s : Int} {v : AV} {vv : Value} (_ : VRel ι v vv) (_ : setStamp es s v = some es'),
    ∃ i, l.findIdx? (fun e => (e.born : Int) == s) = some i ∧ ERel ι es' (l.modify i fun e => { e with val := vv })
  | [], _, _, h, s, v, vv, _, hs => by simp [setStamp] at hs
  | (k', v', t) :: es, es', _, ⟨m, ms, e, h1, h2, h3, h4⟩, s, v, vv, hv, hs => by
    subst e
    simp only [setStamp] at hs
    split at hs
    · rename_i ht
      simp at hs; subst hs
      exact ⟨0, by simp [List.findIdx?_cons, h3, ht], _, ms, rfl, h1, hv, h3, h4⟩
    · rename_i ht
      split at hs <;> simp at hs
      rename_i r hr; subst hs
      obtain ⟨i, e1, e2⟩ := ERel.stamp h4 hv hr
      exact ⟨i + 1, by simp [List.findIdx?_cons, h3, ht, e1], m, _, rfl, h1, h2, h3, e2⟩
theorem run_setMap {r : Nat} {o o' : Obj} (h : w.heap[r]? = some o) (ho : ∀ c el fz, o ≠ .cells c el fz) : (setObj r o').run P w = .ok () { w with heap := w.heap.setIfInBounds r o' } := by
  cases o with
  | cells c el fz => exact absurd rfl (ho c el fz)
  | _ => simp only [setObj, Sem.run, h]
/-- a map is turned -/
theorem map_step (hH : HRel P ι H w) {b : S} {es es' : List (AV × AV × Nat)} {cl cl' : Nat} (hb : H.get b = some (.map es cl)) {r p q : Nat} (hi : ι b = some (r, p, q)) {ms' : Array MapEntry} (he : ERel ι es' ms'.toList) {nx nx' : S} (hnx : nx.toNat ≤ nx'.toNat) :
    (setObj r (.map ms' cl')).run P w = .ok () { w with heap := w.heap.setIfInBounds r (.map ms' cl') } ∧ HRel P ι (H.set b (.map es' cl')) { w with heap := w.heap.setIfInBounds r (.map ms' cl') } ∧
      St ι H nx nx' w ι (H.set b (.map es' cl')) { w with heap := w.heap.setIfInBounds r (.map ms' cl') } := by
  obtain ⟨ms, h1, h2⟩ := hH.map hb hi
  have hlt := hH.lt hb hi
  refine ⟨run_setMap h1 (by simp), ?_⟩
  have ho : ORel P ι (.map es' cl') p q ({ w with heap := w.heap.setIfInBounds r (.map ms' cl') } : World).heap[r]? := ⟨ms', by simp [Array.getElem?_setIfInBounds, hlt], he⟩
  refine write_step hH hb hi (w' := { w with heap := w.heap.setIfInBounds r (.map ms' cl') }) ho (by simp) (fun r' hr' => ?_) rfl rfl rfl hnx
  simp only [Array.getElem?_setIfInBounds]
  rw [if_neg (fun h => hr' h.symm)]
theorem keyStays {v : Value} {k : AV} {ks : Bool} (hok : keyOk ks k = true) (hv : VRel ι k v) : (Instr.keyThatStays v v).run P w = .ok v w := by
  have : Instr.sameBits 10000 v v = true := by
    cases ks <;> cases k <;> simp [keyOk] at hok
    · have := hv.int_inv; subst this; simp [Instr.sameBits]
    · simp only [VRel] at hv; subst hv
      rename_i str
      have : (str == str) = true := by rw [beq_toListBytes]; simp
      simp [Instr.sameBits, this]
  simp [Instr.keyThatStays, this]

def EOk (P : Program) (ι : Io) (H : Hp) (id : S) (w : World) (s : Sem Next) (r : AV) (H' : Hp) : Prop := ∃ skip, Steps1 P ι H id id.succ w s skip r H'
theorem EOk.val {s : Sem Value} {id : S} {r : AV} {H' : Hp} (h : TailOk P ι H id w s r H') : EOk P ι H id w (do pure (.value (← s))) r H' := by
  obtain ⟨ι', w', u, h1, h2, h3, h4⟩ := h
  exact ⟨false, ι', w', u, run_v h1, h2, h3, h4⟩
theorem EOk.unit {s : Sem Unit} {id : S} {H' : Hp} {w' : World} (h1 : s.run P w = .ok () w') (h2 : HRel P ι H' w') (h3 : St ι H id id.succ w ι H' w') : EOk P ι H id w (do s; pure .skip) undefA H' :=
  ⟨true, ι, w', undef, by simp [h1], VRel.undef, h2, h3⟩

theorem mapset_run (hH : HRel P ι H w) {t kt el : TypeId} (hu : P.underlying t = some (.map kt el)) {ks : Bool} (hks : keyK P kt = some ks) {mv kv vv : Value} {b : S} {k v : AV} (hm : VRel ι (.map b) mv) (hk : VRel ι k kv) (hv : VRel ι v vv) (hok : keyOk ks k = true)
    {es : List (AV × AV × Nat)} {cl : Nat} (hb : H.get b = some (.map es cl)) {id : S} {r : AV} {H' : Hp} (hr : (match findE k es 0 with
        | some (some (i, _, _)) => some (undefA, H.set b (.map (setAt es i k v) cl))
        | some none => some (undefA, H.set b (.map (es ++ [(k, v, cl)]) (cl + 1)))
        | none => none) = some (r, H')) :
    EOk P ι H id w (do Instr.mapUpdate t mv kv vv; pure .skip) r H' := by
  obtain ⟨r0, q0, hi, rfl⟩ := hm
  obtain ⟨ms, g1, g2⟩ := hH.map hb hi
  have gm := run_getMap (P := P) g1
  split at hr
  · rename_i i v0 s0 hf
    simp only [Option.some.injEq, Prod.mk.injEq] at hr; obtain ⟨rfl, rfl⟩ := hr
    obtain ⟨x, f1, f2⟩ := findKey_run hks hok hk g2 hf w
    obtain ⟨m, j, rfl, f3, f4, f5, f6, f7⟩ := f2
    have hij : i = j := by omega
    subst hij
    have hmi : ms[i]? = some m := by simpa using f6
    obtain ⟨s1, s2, s3⟩ := map_step (P := P) hH hb hi (ms' := ms.modify i fun e => { e with key := kv, val := vv }) (cl' := cl) (by rw [Array.toList_modify]; exact g2.setAt i hk hv) (nx := id) (nx' := id.succ) (by rw [S.toNat_succ]; omega)
    refine EOk.unit ?_ s2 s3
    simp only [Instr.mapUpdate, Sem.run_bind, run_und hu, Result.andThen_ok, gm, checkKey_run hks hok hk _ 9999, f1, hmi, Option.map_some, Option.getD_some, f7, keyStays hok hk, s1]
  · rename_i hf
    simp only [Option.some.injEq, Prod.mk.injEq] at hr; obtain ⟨rfl, rfl⟩ := hr
    obtain ⟨x, f1, f2⟩ := findKey_run hks hok hk g2 hf w
    simp only [FRel] at f2; subst f2
    obtain ⟨s1, s2, s3⟩ := map_step (P := P) hH hb hi (ms' := ms.push { key := kv, val := vv, born := cl }) (cl' := cl + 1) (by rw [Array.toList_push]; exact g2.append (ERel.single hk hv)) (nx := id) (nx' := id.succ) (by rw [S.toNat_succ]; omega)
    refine EOk.unit ?_ s2 s3
    simp only [Instr.mapUpdate, Sem.run_bind, run_und hu, Result.andThen_ok, gm, checkKey_run hks hok hk _ 9999, f1, s1]
  · simp at hr
theorem mapent_run (hH : HRel P ι H w) {t kt el : TypeId} (hu : P.underlying t = some (.map kt el)) {ks : Bool} (hks : keyK P kt = some ks) {z : AV} (hz : zeroV P el = some z) {mv kv : Value} {b : S} {k : AV} (hm : VRel ι (.map b) mv) (hk : VRel ι k kv) (hok : keyOk ks k = true)
    {es : List (AV × AV × Nat)} {cl : Nat} (hb : H.get b = some (.map es cl)) {id : S} {r : AV} {H' : Hp} (hr : (match findE k es 0 with
        | some (some (i, v, s)) => some (.tup [v, .int .i64 s], H.set b (.map (setAt es i k v) cl))
        | some none => some (.tup [z, .int .i64 cl], H.set b (.map (es ++ [(k, z, cl)]) (cl + 1)))
        | none => none) = some (r, H')) :
    TailOk P ι H id w (Instr.mapEntry t mv kv) r H' := by
  obtain ⟨r0, q0, hi, rfl⟩ := hm
  obtain ⟨ms, g1, g2⟩ := hH.map hb hi
  have gm := run_getMap (P := P) g1
  have tupR : ∀ {x : AV} {v : Value} {n : Int}, VRel ι x v → VRel ι (.tup [x, .int .i64 n]) (.tuple #[v, .int .i64 n]) := fun h => ⟨_, rfl, _, _, rfl, h, _, _, rfl, rfl, rfl⟩
  split at hr
  · rename_i i v0 s0 hf
    simp only [Option.some.injEq, Prod.mk.injEq] at hr; obtain ⟨rfl, rfl⟩ := hr
    obtain ⟨x, f1, f2⟩ := findKey_run hks hok hk g2 hf w
    obtain ⟨m, j, rfl, f3, f4, f5, f6, f7⟩ := f2
    have hij : i = j := by omega
    subst hij
    have hmi : ms[i]? = some m := by simpa using f6
    have hset : ERel ι (setAt es i k v0) (ms.modify i fun e => { e with key := kv }).toList := by
      rw [Array.toList_modify]
      have e1 : ms.toList.modify i (fun e => { e with key := kv }) = ms.toList.modify i (fun e => { e with key := kv, val := m.val }) := by
        apply List.ext_getElem?
        intro j
        simp only [List.getElem?_modify]
        by_cases hj : i = j
        · subst hj; rw [f6]; simp
        · simp [hj]
      rw [e1]
      exact g2.setAt i hk f3
    obtain ⟨s1, s2, s3⟩ := map_step (P := P) hH hb hi (ms' := ms.modify i fun e => { e with key := kv }) (cl' := cl) hset (nx := id) (nx' := id.succ) (by rw [S.toNat_succ]; omega)
    refine ⟨ι, _, .tuple #[m.val, .int .i64 m.born], ?_, by rw [← f4]; exact tupR f3, s2, s3⟩
    simp only [Instr.mapEntry, Sem.run_bind, run_und hu, Result.andThen_ok, gm, checkKey_run hks hok hk _ 9999, f1, hmi, Option.map_some, Option.getD_some, f7, keyStays hok hk, s1, goInt, Sem.run_pure]
  · rename_i hf
    simp only [Option.some.injEq, Prod.mk.injEq] at hr; obtain ⟨rfl, rfl⟩ := hr
    obtain ⟨x, f1, f2⟩ := findKey_run hks hok hk g2 hf w
    simp only [FRel] at f2; subst f2
    obtain ⟨zv, hz1, hz2⟩ := run_zeroV (ι := ι) hz w
    obtain ⟨s1, s2, s3⟩ := map_step (P := P) hH hb hi (ms' := ms.push { key := kv, val := zv, born := cl }) (cl' := cl + 1) (by rw [Array.toList_push]; exact g2.append (ERel.single hk hz2)) (nx := id) (nx' := id.succ) (by rw [S.toNat_succ]; omega)
    refine ⟨ι, _, .tuple #[zv, .int .i64 cl], ?_, tupR hz2, s2, s3⟩
    simp only [Instr.mapEntry, Sem.run_bind, run_und hu, Result.andThen_ok, gm, checkKey_run hks hok hk _ 9999, f1, hz1, s1, goInt, Sem.run_pure]
  · simp at hr

/-- what EOp.run says of a builtin that writes -/
theorem ebuiltin_run {b : Builtin} {ts : Array TypeId} {xs : Array Operand} {eo : EOp} (h : cBuiltin P b ts.toList xs.toList = some (.e eo)) (he : EnvRel ι e a.tmps) (hH : HRel P ι H w) {id : S} (hid : ι id = none) {r : AV} {H' : Hp}
    (hr : eo.run e id H = some (r, H')) (ty : TypeId) (cs : Array Bool) : EOk P ι H id w (builtin b ts ty cs (xs.map a.eval)) r H' := by
  unfold cBuiltin at h
  split at h
  · split at h
    · obtain ⟨_, _, e1⟩ := c1_some.1 h; simp at e1
    · obtain ⟨_, _, e1⟩ := c1_some.1 h; simp at e1
    · simp at h
    · split at h <;> simp at h
    · obtain ⟨_, _, e1⟩ := c1_some.1 h; simp at e1
    · simp at h
  · split at h
    · obtain ⟨_, _, e1⟩ := c1_some.1 h; simp at e1
    · simp at h
  · -- append
    rename_i t t' x y hts hxs
    have hts := toList_two hts
    have hxs := toList_two hxs
    split at h
    · rename_i el ik hu hu'
      split at h
      case h_2 => simp at h
      rename_i s bb z hs hb hz
      split at h
      case isFalse => simp at h
      rename_i hc
      obtain ⟨p, q, hp, hq, e1⟩ := c2_some.1 h
      simp at e1; subst e1
      have vx := cOpd_rel he hp
      have vy := cOpd_rel he hq
      simp only [EOp.run] at hr
      split at hr
      case h_2 => simp at hr
      rename_i k n e2; rw [e2] at vy; have vy := vy.int_inv
      split at hr
      case isFalse => simp at hr
      rename_i hn
      obtain ⟨zv, hz1, hz2⟩ := run_zero (ι := ι) hz w
      have hzs : zv.cells.size = s := by have := hz2.length; simp at this; omega
      have hz3 := map_mod n.toNat hz2
      obtain ⟨base, sLen, sCap, hsv, t1⟩ := append_tail (zeros := true) (sv := a.eval x) (x := .int k n) (appended := if n.toNat * s = 0 then pure #[] else do pure (Builtin.zeroCells (← zeroValue el).cells n.toNat)) hs hb hz hc.1 hc.2.1 hc.2.2 hH hid vx
        hz3 (by simp [hzs]) (fun d => by
          obtain ⟨zv', hz1', _⟩ := run_zero (ι := ι) hz { w with drawn := d }
          have : zv' = zv := by
            obtain ⟨i, hi⟩ : ∃ i, P.info? el = some i := (sizeT_some hs).imp fun i h => h.1
            have e1 : (zeroValue el).run P w = (match i.zero with | some v => .ok v w | none => .halt (.unsupported (.resourceLimit "a value of more than 2^22 cells")) w) := by
              simp only [zeroValue, Sem.run_bind, run_ti hi, Result.andThen_ok]; cases i.zero <;> rfl
            have e2 : (zeroValue el).run P { w with drawn := d } = (match i.zero with | some v => .ok v { w with drawn := d } | none => .halt (.unsupported (.resourceLimit "a value of more than 2^22 cells")) { w with drawn := d }) := by
              simp only [zeroValue, Sem.run_bind, run_ti hi, Result.andThen_ok]; cases i.zero <;> rfl
            rw [e1] at hz1; rw [e2] at hz1'
            cases hzz : i.zero with
            | none => rw [hzz] at hz1; simp at hz1
            | some v => rw [hzz] at hz1 hz1'; simp at hz1 hz1'; rw [← hz1, ← hz1']
          subst this
          by_cases h0 : n.toNat * s = 0
          · rw [if_pos h0, hzs]; simp [h0]
          · rw [if_neg h0]
            simp only [Sem.run_bind, hz1', Result.andThen_ok, Sem.run_pure, Builtin.zeroCells]) hr
      rw [hxs]
      simp only [List.map_toArray, List.map_cons, List.map_nil, builtin]
      apply EOk.val
      rw [vy, hsv]
      obtain ⟨ι', w', u, t2, t3, t4, t5⟩ := t1
      rw [hsv] at t2
      exact ⟨ι', w', u, by rw [appendz_eq hts hu hu' hs hb hn.1 hn.2.1 hn.2.2]; exact t2, t3, t4, t5⟩
    · rename_i el d hd hu hu'
      split at h
      case h_2 => simp at h
      rename_i s bb z hs hb hz
      split at h
      case isFalse => simp at h
      rename_i hc
      obtain ⟨p, q, hp, hq, e1⟩ := c2_some.1 h
      simp at e1; subst e1
      have vx := cOpd_rel he hp
      have vy := cOpd_rel he hq
      simp only [EOp.run] at hr
      split at hr
      case h_2 => simp at hr
      rename_i m ys hme
      obtain ⟨h1, yvs, h2, h3, h4⟩ := elems_run (P := P) hH vy hme
      obtain ⟨base, sLen, sCap, hsv, t1⟩ := append_tail (zeros := false) (sv := a.eval x) (x := a.eval y) (appended := Builtin.firstCells s m (a.eval y)) hs hb hz hc.1 hc.2.1 hc.2.2 hH hid vx h3 h2
        (fun d => by have := h4 m d (Nat.le_refl _); rwa [List.take_of_length_le (by omega)] at this) hr
      rw [hxs]
      simp only [List.map_toArray, List.map_cons, List.map_nil, builtin]
      apply EOk.val
      rw [hsv]
      obtain ⟨ι', w', u, t2, t3, t4, t5⟩ := t1
      rw [hsv] at t2
      exact ⟨ι', w', u, by rw [append_eq hts hu hu' (fun k hk => hd k hk) hs h1]; exact t2, t3, t4, t5⟩
    · simp at h
  · -- copy
    rename_i t rest x y hts hxs
    have hxs := toList_two hxs
    split at h
    · rename_i el hu
      split at h
      case h_2 => simp at h
      rename_i s hs
      split at h
      case isFalse => simp at h
      obtain ⟨p, q, hp, hq, e1⟩ := c2_some.1 h
      simp at e1; subst e1
      have vx := cOpd_rel he hp
      have vy := cOpd_rel he hq
      rw [hxs]
      simp only [List.map_toArray, List.map_cons, List.map_nil, builtin]
      apply EOk.val
      exact copy_run hH (by rw [← Array.getElem?_toList, hts]; rfl) hu hs vx vy hr
    · simp at h
  · split at h <;> simp at h
  · split at h <;> simp at h
  · -- delete
    rename_i t rest x y hts hxs
    have hxs := toList_two hxs
    have ht0 : ts[0]? = some t := by rw [← Array.getElem?_toList, hts]; rfl
    split at h
    · rename_i kt el hu
      split at h
      case h_2 => simp at h
      rename_i ks hks
      obtain ⟨p, q, hp, hq, e1⟩ := c2_some.1 h
      simp at e1; subst e1
      have vx := cOpd_rel he hp
      have vy := cOpd_rel he hq
      rw [hxs]
      simp only [List.map_toArray, List.map_cons, List.map_nil, builtin]
      apply EOk.val
      have e00 : (#[a.eval x, a.eval y] : Array Value)[0]? = some (a.eval x) := rfl
      have e01 : (#[a.eval x, a.eval y] : Array Value)[1]? = some (a.eval y) := rfl
      simp only [EOp.run] at hr
      split at hr
      case isFalse => simp at hr
      rename_i hok
      split at hr
      · rename_i e2; rw [e2] at vx; simp only [VRel] at vx
        simp only [Option.some.injEq, Prod.mk.injEq] at hr; obtain ⟨rfl, rfl⟩ := hr
        refine ⟨ι, w, .tuple #[], ?_, ⟨#[], rfl, rfl⟩, hH, St.here id⟩
        rw [vx] at e00 e01 ⊢
        simp only [Builtin.delete_, ht0, e00, e01, Sem.run_bind, run_und hu, Result.andThen_ok, checkKey_run hks hok vy _ 9999, Sem.run_pure]
      · rename_i b0 e2; rw [e2] at vx
        split at hr
        case h_2 => simp at hr
        rename_i es cl hes
        obtain ⟨r0, q0, hi, vx⟩ := vx
        obtain ⟨ms, g1, g2⟩ := hH.map hes hi
        have gm := run_getMap (P := P) g1
        rw [vx] at e00 e01 ⊢
        split at hr
        · rename_i i v0 s0 hf
          simp only [Option.some.injEq, Prod.mk.injEq] at hr; obtain ⟨rfl, rfl⟩ := hr
          obtain ⟨x0, f1, f2⟩ := findKey_run hks hok vy g2 hf w
          obtain ⟨m, j, rfl, f3, f4, f5, f6, f7⟩ := f2
          have hij : i = j := by omega
          subst hij
          have hlt : i < ms.size := by
            have := (List.getElem?_eq_some_iff.1 f6).1
            simpa using this
          obtain ⟨s1, s2, s3⟩ := map_step (P := P) hH hes hi (ms' := ms.eraseIdxIfInBounds i) (cl' := cl) (by
            have : (ms.eraseIdxIfInBounds i).toList = ms.toList.eraseIdx i := by
              rw [Array.eraseIdxIfInBounds, dif_pos hlt, Array.toList_eraseIdx]
            rw [this]; exact g2.erase i) (nx := id) (nx' := id.succ) (by rw [S.toNat_succ]; omega)
          refine ⟨ι, _, .tuple #[], ?_, ⟨#[], rfl, rfl⟩, s2, s3⟩
          simp only [Builtin.delete_, ht0, e00, e01, Sem.run_bind, run_und hu, Result.andThen_ok, gm, checkKey_run hks hok vy _ 9999, f1, s1, Sem.run_pure]
        · rename_i hf
          simp only [Option.some.injEq, Prod.mk.injEq] at hr; obtain ⟨rfl, rfl⟩ := hr
          obtain ⟨x0, f1, f2⟩ := findKey_run hks hok vy g2 hf w
          simp only [FRel] at f2; subst f2
          obtain ⟨s1, s2, s3⟩ := map_step (P := P) hH hes hi (ms' := ms) (cl' := cl) g2 (nx := id) (nx' := id.succ) (by rw [S.toNat_succ]; omega)
          refine ⟨ι, _, .tuple #[], ?_, ⟨#[], rfl, rfl⟩, s2, s3⟩
          simp only [Builtin.delete_, ht0, e00, e01, Sem.run_bind, run_und hu, Result.andThen_ok, gm, checkKey_run hks hok vy _ 9999, f1, s1, Sem.run_pure]
        · simp at hr
      · simp at hr
    · simp at h
  · -- clear
    rename_i t x hts hxs
    have hts := toList_one hts
    have hxs := toList_one hxs
    split at h
    · rename_i el hu
      split at h
      case h_2 => simp at h
      rename_i s z hs hz
      split at h
      case isFalse => simp at h
      rename_i hzl
      obtain ⟨p, hp, e1⟩ := c1_some.1 h
      simp at e1; subst e1
      have vx := cOpd_rel he hp
      rw [hxs, hts]
      simp only [List.map_toArray, List.map_cons, List.map_nil, builtin]
      apply EOk.val
      have e0 : (#[t] : Array TypeId)[0]? = some t := rfl
      have e00 : (#[a.eval x] : Array Value)[0]? = some (a.eval x) := rfl
      simp only [EOp.run] at hr
      split at hr
      · rename_i e2; rw [e2] at vx; simp only [VRel] at vx
        simp only [Option.some.injEq, Prod.mk.injEq] at hr; obtain ⟨rfl, rfl⟩ := hr
        refine ⟨ι, w, .tuple #[], ?_, ⟨#[], rfl, rfl⟩, hH, St.here id⟩
        rw [vx] at e00 ⊢
        simp only [Builtin.clear_, e0, e00, Sem.run_bind, run_und hu, Result.andThen_ok, Sem.run_pure]
      · rename_i y b0 o n c e2; rw [e2] at vx
        obtain ⟨r0, p0, q0, ad, cap, hi, vx, hcap, had⟩ := vx
        rw [vx] at e00 ⊢
        split at hr
        · rename_i hn0; subst hn0
          simp only [Option.some.injEq, Prod.mk.injEq] at hr; obtain ⟨rfl, rfl⟩ := hr
          refine ⟨ι, w, .tuple #[], ?_, ⟨#[], rfl, rfl⟩, hH, St.here id⟩
          simp only [Builtin.clear_, e0, e00, Sem.run_bind, run_und hu, Result.andThen_ok, Sem.run_pure]
        · rename_i hn0
          split at hr
          case isFalse => simp at hr
          rename_i hyz
          split at hr
          case h_2 => simp at hr
          rename_i t0 ht0
          split at hr
          case h_2 => simp at hr
          rename_i t1 ht1
          simp only [Option.some.injEq, Prod.mk.injEq] at hr; obtain ⟨rfl, rfl⟩ := hr
          have hncap : n ≤ cap := by cases c <;> simp only [CapRel] at hcap <;> omega
          obtain ⟨rfl, _⟩ := had.resolve_left (by omega)
          obtain ⟨zv, hz1, hz2⟩ := run_zero (ι := ι) hz w
          have hz3 := map_mod n hz2
          obtain ⟨w', k1, k2, k3⟩ := stores_run (P := P) hH ht0 hi ht1 hz3 (nx := id) (nx' := id.succ) (by rw [S.toNat_succ]; omega)
          refine ⟨ι, w', .tuple #[], ?_, ⟨#[], rfl, rfl⟩, k2, k3⟩
          obtain ⟨n', rfl⟩ : ∃ n', n = n' + 1 := ⟨n - 1, by omega⟩
          simp only [Builtin.clear_, e0, e00, Sem.run_bind, run_und hu, Result.andThen_ok, hz1, Builtin.zeroCells, k1, Sem.run_pure]
      · simp at hr
    · simp at h
  · simp at h
end
end Go.Ab
/- All operations that write. -/
set_option linter.unusedSimpArgs false
set_option linter.unusedVariables false
namespace Go.Ab
open Go
section
variable {P : Program} {ι : Io} {e : Env} {a : Act} {H : Hp} {w : World}

theorem eop_run {O : Oper} {eo : EOp} (h : cOp P O.op = some (.e eo)) (he : EnvRel ι e a.tmps) (hH : HRel P ι H w) {id : S} (hid : ι id = none) {r : AV} {H' : Hp} (hr : eo.run e id H = some (r, H')) :
    EOk P ι H id w (execOp a.eval O) r H' := by
  obtain ⟨dst, op, ty, pos, after, guard⟩ := O
  simp only at h
  have nxt : id.toNat ≤ id.succ.toNat := by rw [S.toNat_succ]; omega
  cases op <;> simp only [cOp] at h <;> (try (first
    | (obtain ⟨_, _, e1⟩ := c1_some.1 h; simp at e1; done)
    | (obtain ⟨_, _, _, _, e1⟩ := c2_some.1 h; simp at e1; done)
    | (simp at h; done)))
  case pick => obtain ⟨_, _, _, _, _, _, e1⟩ := c3_some.1 h; simp at e1
  case alloc => split at h <;> simp at h
  case build =>
    split at h
    · split at h
      · split at h <;> simp at h
      · simp at h
    · split at h
      · split at h <;> simp at h
      · simp at h
    · simp at h
  case buildSlice =>
    split at h
    · split at h
      · split at h
        · split at h <;> simp at h
        · simp at h
      · simp at h
    · simp at h
  case insert t m k v =>
    split at h
    case h_2 => simp at h
    rename_i kt el hu
    split at h
    case h_2 => simp at h
    rename_i ks hks
    obtain ⟨m', k', v', hm, hk, hv, e1⟩ := c3_some.1 h
    simp at e1; subst e1
    have vm := cOpd_rel he hm
    have vk := cOpd_rel he hk
    have vv := cOpd_rel he hv
    simp only [EOp.run] at hr
    split at hr
    case isFalse => simp at hr
    rename_i hok
    split at hr
    case h_2 => simp at hr
    rename_i b e2; rw [e2] at vm
    split at hr
    case h_2 => simp at hr
    rename_i es cl hes
    exact mapset_run hH hu hks vm vk vv hok hes hr
  case mapUpdate t m k v =>
    split at h
    case h_2 => simp at h
    rename_i kt el hu
    split at h
    case h_2 => simp at h
    rename_i ks hks
    obtain ⟨m', k', v', hm, hk, hv, e1⟩ := c3_some.1 h
    simp at e1; subst e1
    have vm := cOpd_rel he hm
    have vk := cOpd_rel he hk
    have vv := cOpd_rel he hv
    simp only [EOp.run] at hr
    split at hr
    case isFalse => simp at hr
    rename_i hok
    split at hr
    case h_2 => simp at hr
    rename_i b e2; rw [e2] at vm
    split at hr
    case h_2 => simp at hr
    rename_i es cl hes
    exact mapset_run hH hu hks vm vk vv hok hes hr
  case load =>
    split at h
    · obtain ⟨_, _, e1⟩ := c1_some.1 h; simp at e1
    · obtain ⟨_, _, e1⟩ := c1_some.1 h; simp at e1
    · simp at h
  case store t x y =>
    split at h
    case h_2 => simp at h
    rename_i n hn
    obtain ⟨p, q, hp, hq, e1⟩ := c2_some.1 h
    simp at e1; subst e1
    have va := cOpd_rel he hp
    have vx := cOpd_rel he hq
    simp only [EOp.run] at hr
    split at hr
    case h_2 => simp at hr
    rename_i b o e2; rw [e2] at va
    split at hr
    case isFalse => simp at hr
    rename_i hlen
    split at hr
    case h_2 => simp at hr
    rename_i cs hcs
    split at hr
    case h_2 => simp at hr
    rename_i cs' hcs'
    simp only [Option.some.injEq, Prod.mk.injEq] at hr; obtain ⟨rfl, rfl⟩ := hr
    obtain ⟨w', k1, k2, k3⟩ := store_run hH va vx hlen hcs hcs' hn nxt
    exact EOk.unit k1 k2 k3
  case binOp bop _ _ _ _ =>
    cases bop <;> simp only [cOp] at h <;> (try (obtain ⟨_, _, _, _, e1⟩ := c2_some.1 h; simp at e1; done))
    · split at h
      · obtain ⟨_, _, _, _, e1⟩ := c2_some.1 h; simp at e1
      · obtain ⟨_, _, _, _, e1⟩ := c2_some.1 h; simp at e1
      · simp at h
    · split at h
      · obtain ⟨_, _, _, _, e1⟩ := c2_some.1 h; simp at e1
      · obtain ⟨_, _, _, _, e1⟩ := c2_some.1 h; simp at e1
      · simp at h
  case unOp uop _ _ =>
    cases uop <;> simp only [cOp] at h <;> (try (obtain ⟨_, _, e1⟩ := c1_some.1 h; simp at e1; done)) <;> simp at h
  case convert =>
    split at h
    · obtain ⟨_, _, e1⟩ := c1_some.1 h; simp at e1
    · split at h
      · obtain ⟨_, _, e1⟩ := c1_some.1 h; simp at e1
      · simp at h
    · split at h
      · obtain ⟨_, _, e1⟩ := c1_some.1 h; simp at e1
      · simp at h
    · simp at h
  case makeInterface =>
    split at h
    · simp at h
    · obtain ⟨_, _, e1⟩ := c1_some.1 h; simp at e1
    · simp at h
  case makeFunc fn _ _ =>
    cases fn <;> simp only [cOp] at h
    · split at h <;> simp at h
    all_goals simp at h
  case makeMap t rs =>
    cases rs <;> simp [cOp] at h
  case makeSlice =>
    split at h
    · split at h
      · split at h
        · obtain ⟨_, _, _, _, e1⟩ := c2_some.1 h; simp at e1
        · simp at h
      · simp at h
    · simp at h
  case slice =>
    split at h
    case h_2 => simp at h
    split at h
    · split at h <;> simp at h
    · split at h <;> simp at h
    · split at h <;> simp at h
    · simp at h
  case fieldAddr =>
    split at h
    · split at h
      · split at h
        · split at h
          · simp at h
          · obtain ⟨_, _, e1⟩ := c1_some.1 h; simp at e1
        · simp at h
      · simp at h
    · simp at h
  case field =>
    split at h
    · split at h
      · split at h
        · obtain ⟨_, _, e1⟩ := c1_some.1 h; simp at e1
        · simp at h
      · simp at h
    · simp at h
  case indexAddr =>
    split at h
    · split at h
      · obtain ⟨_, _, _, _, e1⟩ := c2_some.1 h; simp at e1
      · simp at h
    · split at h
      · obtain ⟨_, _, _, _, e1⟩ := c2_some.1 h; simp at e1
      · simp at h
    · simp at h
  case index =>
    split at h
    · split at h
      · obtain ⟨_, _, _, _, e1⟩ := c2_some.1 h; simp at e1
      · simp at h
    · obtain ⟨_, _, _, _, e1⟩ := c2_some.1 h; simp at e1
    · simp at h
  case lookup =>
    split at h
    · split at h
      · obtain ⟨_, _, _, _, e1⟩ := c2_some.1 h; simp at e1
      · simp at h
    · simp at h
  case mapEntry t m k =>
    split at h
    case h_2 => simp at h
    rename_i kt el hu
    split at h
    case h_2 => simp at h
    rename_i z ks hz hks
    obtain ⟨m', k', hm, hk, e1⟩ := c2_some.1 h
    simp at e1; subst e1
    have vm := cOpd_rel he hm
    have vk := cOpd_rel he hk
    simp only [EOp.run] at hr
    split at hr
    case isFalse => simp at hr
    rename_i hok
    split at hr
    case h_2 => simp at hr
    rename_i b e2; rw [e2] at vm
    split at hr
    case h_2 => simp at hr
    rename_i es cl hes
    exact EOk.val (mapent_run hH hu hks hz vm vk hok hes hr)
  case entryStore t m s x =>
    obtain ⟨m', s', x', hm, hs, hx, e1⟩ := c3_some.1 h
    simp at e1; subst e1
    have vm := cOpd_rel he hm
    have vs := cOpd_rel he hs
    have vx := cOpd_rel he hx
    simp only [EOp.run] at hr
    split at hr
    case h_2 => simp at hr
    rename_i b ik n e2 e3; rw [e2] at vm; rw [e3] at vs; have vs := vs.int_inv
    split at hr
    case h_2 => simp at hr
    rename_i es cl hes
    split at hr
    case h_2 => simp at hr
    rename_i es' hes'
    simp only [Option.some.injEq, Prod.mk.injEq] at hr; obtain ⟨rfl, rfl⟩ := hr
    obtain ⟨r0, q0, hi, e4⟩ := vm
    obtain ⟨ms, g1, g2⟩ := hH.map hes hi
    obtain ⟨i, f1, f2⟩ := g2.stamp vx hes'
    obtain ⟨s1, s2, s3⟩ := map_step (P := P) hH hes hi (ms' := ms.modify i fun e => { e with val := a.eval x }) (cl' := cl) (by rw [Array.toList_modify]; exact f2) (nx := id) (nx' := id.succ) nxt
    have f3 : ms.findIdx? (fun e => (e.born : Int) == n) = some i := by rw [← List.findIdx?_toArray] at f1; simpa using f1
    refine EOk.unit ?_ s2 s3
    simp only [Instr.entryStore, e4, vs, Sem.run_bind, run_getMap (P := P) g1, Result.andThen_ok, asInt, asIntOf, Sem.run_pure, f3, s1]
  case call c =>
    split at h
    · split at h
      · split at h
        · simp at h
        · obtain ⟨_, _, e1⟩ := c1_some.1 h; simp at e1
      · simp at h
    · rename_i b hb
      rw [builtin_eq (O := ⟨dst, .call c, ty, pos, after, guard⟩) rfl hb]
      exact ebuiltin_run h he hH hid hr _ _
    · simp at h
end
end Go.Ab
/- The machine's steps at a frame that runs; one operation of a region. -/
set_option linter.unusedSimpArgs false
set_option linter.unusedVariables false
namespace Go.Ab
open Go

/-- a frame that runs -/
def Fr (fn : FuncId) (rd : Option Nat) (tm : Array Value) (df : List Deferred) (todo : List Item) : Frame :=
  { fn, tmps := tm, todo, defers := df, mode := .run, kind := .normal, roundOf := rd }
def actOf (tm : Array Value) : Act := { tmps := tm, defers := [] }
theorem Fr_eval (fn : FuncId) (rd : Option Nat) (tm : Array Value) (df : List Deferred) (todo : List Item) : (Fr fn rd tm df todo).eval = (actOf tm).eval := by
  funext x; cases x <;> rfl
def tmPut (tm : Array Value) (dst : Option Tmp) (v : Value) : Array Value := match dst with
  | some d => tm.setIfInBounds d v
  | none => tm
theorem Fr_finish (fn : FuncId) (rd : Option Nat) (tm : Array Value) (df : List Deferred) (ops : Array Oper) (i : Nat) (rest : List Nat) (k : List Item) (v : Value) :
    (Fr fn rd tm df (.inRegion ops (i :: rest) :: k)).finish v = Fr fn rd (tmPut tm ((ops[i]?).bind (·.dst)) v) df (.inRegion ops rest :: k) := by
  cases h : (ops[i]?).bind (·.dst) <;> simp [Frame.finish, Fr, tmPut, h]

section
variable {P : Program} {fn : FuncId} {rd : Option Nat} {tm : Array Value} {df : List Deferred} {k : List Item} {cs : List Frame} {w : World}

theorem s_skip : Go.Steps P (lone (Fr fn rd tm df (.code .skip :: k)) cs w) (lone (Fr fn rd tm df k) cs w) := .one (step_lone_go (by simp [stepG, stepG.exec, Fr]))
theorem s_inBlock {id : Nat} : Go.Steps P (lone (Fr fn rd tm df (.inBlock id :: k)) cs w) (lone (Fr fn rd tm df k) cs w) := .one (step_lone_go (by simp [stepG, stepG.exec, Fr]))
theorem s_seq {x y : Code} : Go.Steps P (lone (Fr fn rd tm df (.code (.seq x y) :: k)) cs w) (lone (Fr fn rd tm df (.code x :: .code y :: k)) cs w) := .one (step_lone_go (by simp [stepG, stepG.exec, Fr]))
theorem s_cond {c : Operand} {x y : Code} {t : Bool} (h : (actOf tm).eval c = .bool t) : Go.Steps P (lone (Fr fn rd tm df (.code (.cond c x y) :: k)) cs w) (lone (Fr fn rd tm df (.code (if t then x else y) :: k)) cs w) :=
  .one (step_lone_go (by
    have := congrFun (Fr_eval fn rd tm df (.code (.cond c x y) :: k)) c
    simp only [Fr] at this
    simp [stepG, stepG.exec, Fr, this, h]))
theorem s_block {id : Nat} {c : Code} : Go.Steps P (lone (Fr fn rd tm df (.code (.block id c) :: k)) cs w) (lone (Fr fn rd tm df (.code c :: .inBlock id :: k)) cs w) := .one (step_lone_go (by simp [stepG, stepG.exec, Fr]))
theorem s_loop {c : Code} : Go.Steps P (lone (Fr fn rd tm df (.code (.loop c) :: k)) cs w) (lone (Fr fn rd tm df (.code c :: .inLoop c :: k)) cs w) := .one (step_lone_go (by simp [stepG, stepG.exec, Fr]))
theorem s_inLoop {c : Code} : Go.Steps P (lone (Fr fn rd tm df (.inLoop c :: k)) cs w) (lone (Fr fn rd tm df (.code c :: .inLoop c :: k)) cs w) := .one (step_lone_go (by simp [stepG, stepG.exec, Fr]))
theorem s_exit {id : Nat} {k' : List Item} (h : exitTo id k = some k') : Go.Steps P (lone (Fr fn rd tm df (.code (.exit id) :: k)) cs w) (lone (Fr fn rd tm df k') cs w) := .one (step_lone_go (by simp [stepG, stepG.exec, Fr, h]))
theorem s_region {id : Nat} {ops : Array Oper} : Go.Steps P (lone (Fr fn rd tm df (.code (.region id ops false) :: k)) cs w) (lone (Fr fn rd tm df (.inRegion ops (List.range ops.size) :: k)) cs w) := .one (step_lone_go (by simp [stepG, stepG.exec, Fr]))
theorem s_draw {id : Nat} {ops : Array Oper} : Go.Steps P (lone (Fr fn rd tm df (.code (.region id ops true) :: k)) cs w)
    (lone (Fr fn rd tm df (.inRegion ops (Region.schedule (P.follows .mixedOrders) ops (w.tape w.drawn (.order fn id))) :: k)) cs { w with drawn := w.drawn + 1 }) :=
  .one (step_lone_go (by simp [stepG, stepG.exec, Fr, choose, Sem.run, Question.forced, Question.cut]))
theorem s_regEnd {ops : Array Oper} : Go.Steps P (lone (Fr fn rd tm df (.inRegion ops [] :: k)) cs w) (lone (Fr fn rd tm df k) cs w) := .one (step_lone_go (by simp [stepG, stepG.exec, Fr]))
theorem s_opNot {ops : Array Oper} {i : Nat} {rest : List Nat} {o : Oper} (ho : ops[i]? = some o) (hw : Region.wanted o (yielded ops tm) = false) :
    Go.Steps P (lone (Fr fn rd tm df (.inRegion ops (i :: rest) :: k)) cs w) (lone (Fr fn rd (tmPut tm o.dst undef) df (.inRegion ops rest :: k)) cs w) := by
  have h1 := Fr_finish fn rd tm df ops i rest k undef
  rw [ho] at h1
  have h2 : ((some o : Option Oper).bind (·.dst)) = o.dst := rfl
  rw [h2] at h1
  rw [← h1]
  exact .one (step_lone_go (by simp [stepG, stepG.exec, Fr, ho, hw]))
/-- no defer -/
def noDefer (o : Op) : Prop := ∀ c, o ≠ .defer c
theorem stepG_oper {ops : Array Oper} {i : Nat} {rest : List Nat} {o : Oper} (ho : ops[i]? = some o) (hw : Region.wanted o (yielded ops tm) = true) (hd : noDefer o.op) :
    stepG P true { frame := Fr fn rd tm df (.inRegion ops (i :: rest) :: k), callers := cs, status := .running, dying := none } w =
      stepG.apply P true (Fr fn rd tm df (.inRegion ops (i :: rest) :: k)) cs none (execOp (actOf tm).eval o) w := by
  have he := Fr_eval fn rd tm df (.inRegion ops (i :: rest) :: k)
  have e1 : (Fr fn rd tm df (.inRegion ops (i :: rest) :: k)).oper? = some o := by simp [Frame.oper?, Fr, ho]
  have e2 : stepG P true { frame := Fr fn rd tm df (.inRegion ops (i :: rest) :: k), callers := cs, status := .running, dying := none } w =
      stepG.oper P true (Fr fn rd tm df (.inRegion ops (i :: rest) :: k)) cs none w := by
    simp [stepG, stepG.exec, Fr, ho, hw]
  rw [e2]
  unfold stepG.oper
  rw [e1]
  simp only [he]
  cases rd with
  | none => rfl
  | some l =>
    cases hop : o.op <;> first
      | (exact absurd hop (hd _))
      | (simp only [Fr, hop])
theorem s_opVal {ops : Array Oper} {i : Nat} {rest : List Nat} {o : Oper} (ho : ops[i]? = some o) (hw : Region.wanted o (yielded ops tm) = true) (hd : noDefer o.op) {v : Value} {w' : World}
    (hr : (execOp (actOf tm).eval o).run P w = .ok (.value v) w') :
    Go.Steps P (lone (Fr fn rd tm df (.inRegion ops (i :: rest) :: k)) cs w) (lone (Fr fn rd (tmPut tm o.dst v) df (.inRegion ops rest :: k)) cs w') := by
  have h1 := Fr_finish fn rd tm df ops i rest k v
  rw [ho] at h1
  have h2 : ((some o : Option Oper).bind (·.dst)) = o.dst := rfl
  rw [h2] at h1
  rw [← h1]
  refine .one (step_lone_go ?_)
  rw [stepG_oper ho hw hd]
  simp [stepG.apply, Sem.runT_eq, hr]
theorem s_opSkip {ops : Array Oper} {i : Nat} {rest : List Nat} {o : Oper} (ho : ops[i]? = some o) (hw : Region.wanted o (yielded ops tm) = true) (hd : noDefer o.op) {w' : World}
    (hr : (execOp (actOf tm).eval o).run P w = .ok .skip w') :
    Go.Steps P (lone (Fr fn rd tm df (.inRegion ops (i :: rest) :: k)) cs w) (lone (Fr fn rd (tmPut tm o.dst undef) df (.inRegion ops rest :: k)) cs w') := by
  have h1 := Fr_finish fn rd tm df ops i rest k undef
  rw [ho] at h1
  have h2 : ((some o : Option Oper).bind (·.dst)) = o.dst := rfl
  rw [h2] at h1
  rw [← h1]
  refine .one (step_lone_go ?_)
  rw [stepG_oper ho hw hd]
  simp [stepG.apply, Sem.runT_eq, hr]
theorem s_opEnter {ops : Array Oper} {i : Nat} {rest : List Nat} {o : Oper} (ho : ops[i]? = some o) (hw : Region.wanted o (yielded ops tm) = true) (hd : noDefer o.op) {f : FuncId} {args : Array Value} {w' : World}
    (hr : (execOp (actOf tm).eval o).run P w = .ok (.enter f args) w') :
    Go.Steps P (lone (Fr fn rd tm df (.inRegion ops (i :: rest) :: k)) cs w) (lone (Frame.enter P f args .normal) (Fr fn rd tm df (.inRegion ops (i :: rest) :: k) :: cs) w') := by
  refine .one (step_lone_go ?_)
  rw [stepG_oper ho hw hd]
  simp [stepG.apply, Sem.runT_eq, hr, Fr]
theorem s_opRound {ops : Array Oper} {i : Nat} {rest : List Nat} {o : Oper} (ho : ops[i]? = some o) (hw : Region.wanted o (yielded ops tm) = true) (hd : noDefer o.op) {l : Nat} {f : FuncId} {tmps : Array Value} {asg body : Code} {w' : World}
    (hr : (execOp (actOf tm).eval o).run P w = .ok (.round l f tmps asg body) w') :
    Go.Steps P (lone (Fr fn rd tm df (.inRegion ops (i :: rest) :: k)) cs w) (lone (Frame.round l f tmps asg body .normal) (Fr fn rd tm df (.inRegion ops (i :: rest) :: k) :: cs) w') := by
  refine .one (step_lone_go ?_)
  rw [stepG_oper ho hw hd]
  simp [stepG.apply, Sem.runT_eq, hr, Fr]
end
end Go.Ab
/- One operation of a region, a call among them. -/
set_option linter.unusedSimpArgs false
set_option linter.unusedVariables false
namespace Go.Ab
open Go

/-- what becomes of a callee's frame: its caller goes on with the result -/
def CallRes (P : Program) (ι : Io) (H : Hp) (nx nx' : S) (w : World) (v : AV) (H' : Hp) (fr : Frame) : Prop :=
  ∀ c cs, ∃ ι' w' u, Go.Steps P (lone fr (c :: cs) w) (lone (c.finish u) cs w') ∧ VRel ι' v u ∧ HRel P ι' H' w' ∧ St ι H nx nx' w ι' H' w'
/-- no names beyond -/
def Wf (H : Hp) (nx : S) : Prop := ∀ b : S, nx.toNat ≤ b.toNat → H.get b = none
def roundTmps (lp : Loop) (vargs : Array Value) : Array Value := (lp.params.zip vargs).foldl (fun tmps (t, a) => tmps.setIfInBounds t a) lp.tmps
/-- the calls are what the machine's are -/
def CallOK (P : Program) (call : Caller) : Prop :=
  ∀ t args nx H v nx' H', call t args nx H = .mk v nx' H' → ∀ ι w (vargs : Array Value), VRels ι args vargs.toList → HRel P ι H w → Wf H nx → FreshI ι nx nx' → match t with
    | .fn f => (∃ fn, P.funcs[f]? = some fn ∧ (fn.name == "runtime.NumGoroutine") = false ∧ fn.body.isNone = false) ∧ CallRes P ι H nx nx' w v H' (Frame.enter P f vargs .normal)
    | .rd l => ∀ r q, ι l = some (r, 0, q) → ∃ lp, w.heap[r]? = some (.loop lp) ∧ vargs.size = lp.params.size ∧
        CallRes P ι H nx nx' w v H' (Frame.round r lp.fn (roundTmps lp vargs) lp.assign lp.body .normal)

section
variable {P : Program} {fn : FuncId} {rd : Option Nat} {tm : Array Value} {df : List Deferred} {k : List Item} {cs : List Frame} {w : World} {ι : Io} {e : Env} {H H' : Hp} {call : Caller}

theorem cIns_some {N : Nat} {ops : Array Oper} {o : Oper} {I : Ins} (h : cIns P N ops o = some I) :
    I.act = cAct P o.op ∧ (match o.dst with | none => I.dst = none | some d => d < N ∧ I.dst = some (S.ofNat d)) ∧
    (match o.guard with | none => I.guard = none | some (j, x) => ∃ d, (ops[j]?).bind (·.dst) = some d ∧ I.guard = some (S.ofNat d, x)) := by
  unfold cIns at h
  split at h
  case h_2 => simp at h
  rename_i d g hd hg
  simp at h; subst h
  refine ⟨rfl, ?_, ?_⟩
  · cases ho : o.dst with
    | none => rw [ho] at hd; simpa using hd.symm
    | some x =>
      rw [ho] at hd
      simp only at hd
      split at hd
      · rename_i hx; exact ⟨hx, by simpa using hd.symm⟩
      · simp at hd
  · cases ho : o.guard with
    | none => rw [ho] at hg; simpa using hg.symm
    | some x =>
      obtain ⟨j, x⟩ := x
      rw [ho] at hg
      simp only at hg
      cases hj : (ops[j]?).bind (·.dst) with
      | none => rw [hj] at hg; simp at hg
      | some d => rw [hj] at hg; exact ⟨d, hj, by simpa using hg.symm⟩
theorem wanted_eq {N : Nat} {ops : Array Oper} {o : Oper} {I : Ins} (h : cIns P N ops o = some I) (he : EnvRel ι e tm) (hN : ∀ d, (∃ j : Nat, (ops[j]?).bind (fun o : Oper => o.dst) = some d) → d < tm.size) :
    Region.wanted o (yielded ops tm) = wantedA e I.guard := by
  obtain ⟨_, _, h3⟩ := cIns_some h
  unfold Region.wanted
  cases ho : o.guard with
  | none => rw [ho] at h3; simp only at h3; rw [h3]; rfl
  | some x =>
    obtain ⟨j, x⟩ := x
    rw [ho] at h3
    obtain ⟨d, hd, hg⟩ := h3
    rw [hg]
    simp only [wantedA, yielded, hd, Option.bind_some]
    have hlt := hN d ⟨j, hd⟩
    have hv := he d
    have hget : tm[d]? = some (tm.getD d undef) := by
      rw [Array.getElem?_eq_getElem hlt]; simp [Array.getD, hlt]
    rw [hget]
    generalize tm.getD d undef = u at hv
    generalize at_ e (S.ofNat d) = av at hv
    cases av <;> simp only [VRel] at hv
    case bool b => subst hv; simp
    case int => subst hv; simp
    case str => subst hv; simp
    case ptr => obtain ⟨_, _, _, _, rfl⟩ := hv; simp
    case nilptr => subst hv; simp
    case slice => obtain ⟨_, _, _, _, _, _, rfl, _⟩ := hv; simp
    case nilslice => subst hv; simp
    case map => obtain ⟨_, _, _, rfl⟩ := hv; simp
    case nilmap => subst hv; simp
    case func => obtain ⟨_, _, rfl, _⟩ := hv; simp
    case yield => obtain ⟨_, _, _, rfl⟩ := hv; simp
    case nilfunc => subst hv; simp
    case iface => obtain ⟨_, rfl, _⟩ := hv; simp
    case niliface => subst hv; simp
    case agg => obtain ⟨_, rfl, _⟩ := hv; simp
    case tup => obtain ⟨_, rfl, _⟩ := hv; simp

theorem noDefer_of {o : Op} {a : Act1} (h : cOp P o = some a) : noDefer o := by
  rintro c rfl
  simp [cOp] at h

/-- the operation's own part: no call -/
theorem cBuiltin_call {b : Builtin} {ts : List TypeId} {xs : List Operand} {f : Nat} {args : List Opd} : cBuiltin P b ts xs ≠ some (.call f args) := by
  intro h
  unfold cBuiltin at h
  repeat' split at h
  all_goals first
    | (simp at h; done)
    | (obtain ⟨_, _, e1⟩ := c1_some.1 h; simp at e1; done)
    | (obtain ⟨_, _, _, _, e1⟩ := c2_some.1 h; simp at e1; done)
theorem cBuiltin_callv {b : Builtin} {ts : List TypeId} {xs : List Operand} {f : Opd} {args : List Opd} : cBuiltin P b ts xs ≠ some (.callv f args) := by
  intro h
  unfold cBuiltin at h
  repeat' split at h
  all_goals first
    | (simp at h; done)
    | (obtain ⟨_, _, e1⟩ := c1_some.1 h; simp at e1; done)
    | (obtain ⟨_, _, _, _, e1⟩ := c2_some.1 h; simp at e1; done)

theorem run_callFunc {f : FuncId} {args : Array Value} {fd : Func} (h : P.funcs[f]? = some fd) (h1 : (fd.name == "runtime.NumGoroutine") = false) (h2 : fd.body.isNone = false) :
    (callFunc f args).run P w = .ok (.enter f args) w := by
  unfold callFunc
  rw [Sem.run_bind]
  have : (program : Sem Program).run P w = .ok P w := rfl
  rw [this, Result.andThen_ok]
  simp only [h, h1, h2]
  rfl
theorem run_yield {r : Nat} {lp : Loop} {args : Array Value} (h : w.heap[r]? = some (.loop lp)) (hs : args.size = lp.params.size) :
    (Instr.yield r args).run P w = .ok (.round r lp.fn (roundTmps lp args) lp.assign lp.body) w := by
  unfold Instr.yield Instr.getLoop
  simp [getObj, h, hs, roundTmps, Sem.run, pure, bind, Sem.bind]

/-- what cOp makes of a call -/
theorem cOp_call {o : Op} {a : Act1} (h : cOp P o = some a) (ha : (∃ f args, a = .call f args) ∨ (∃ f args, a = .callv f args)) : ∃ c f as, o = .call c ∧ c.callee = .value f ∧ cOpds c.args.toList = some as ∧
    ((∃ g, f = .func g ∧ a = .call g as) ∨ (∃ f', cOpd f = some f' ∧ a = .callv f' as)) := by
  cases o
  case call c =>
    simp only [cOp] at h
    cases hc : c.callee <;> rw [hc] at h <;> simp only at h
    case builtin b =>
      rcases ha with ⟨_, _, rfl⟩ | ⟨_, _, rfl⟩
      · exact absurd h cBuiltin_call
      · exact absurd h cBuiltin_callv
    case invoke => simp at h
    case value f =>
      cases hx : cOpds c.args.toList with
      | none => rw [hx] at h; simp at h
      | some as =>
        rw [hx] at h; simp only at h
        refine ⟨c, f, as, rfl, hc, hx, ?_⟩
        split at h
        · simp at h; exact .inl ⟨_, rfl, h.symm⟩
        · obtain ⟨f', hf, e1⟩ := c1_some.1 h
          exact .inr ⟨f', hf, by simpa using e1.symm⟩
  all_goals
    exfalso
    simp only [cOp] at h
    (repeat' split at h)
    all_goals (first
    | contradiction
    | (simp at h; done)
    | (obtain ⟨_, _, e1⟩ := c1_some.1 h; rcases ha with ⟨_, _, e2⟩ | ⟨_, _, e2⟩ <;> rw [e2] at e1 <;> simp at e1; done)
    | (obtain ⟨_, _, _, _, e1⟩ := c2_some.1 h; rcases ha with ⟨_, _, e2⟩ | ⟨_, _, e2⟩ <;> rw [e2] at e1 <;> simp at e1; done)
    | (obtain ⟨_, _, _, _, _, _, e1⟩ := c3_some.1 h; rcases ha with ⟨_, _, e2⟩ | ⟨_, _, e2⟩ <;> rw [e2] at e1 <;> simp at e1; done)
    | (simp at h; subst h; rcases ha with ⟨_, _, e2⟩ | ⟨_, _, e2⟩ <;> simp at e2; done))

theorem cAct_some {o : Op} {a : Act1} (h : a = cAct P o) (hb : a ≠ .p .bad) : cOp P o = some a := by
  unfold cAct at h
  split at h
  · rename_i h1; subst h; exact h1
  · exact absurd h hb

/-- one operation -/
theorem act_step {ops : Array Oper} {i : Nat} {rest : List Nat} {o : Oper} {N : Nat} {I : Ins} {nx nx' : S} {v : AV} (ho : ops[i]? = some o) (hI : cIns P N ops o = some I)
    (he : EnvRel ι e tm) (hH : HRel P ι H w) (hwf : isEff I.act = true → Wf H nx) (hf : FreshI ι nx nx') (hc : CallOK P call) (hw : Region.wanted o (yielded ops tm) = true) (hr : I.act.run call e nx H = .mk v nx' H') :
    ∃ ι' w' u, Go.Steps P (lone (Fr fn rd tm df (.inRegion ops (i :: rest) :: k)) cs w) (lone (Fr fn rd (tmPut tm o.dst u) df (.inRegion ops rest :: k)) cs w') ∧ VRel ι' v u ∧ HRel P ι' H' w' ∧ St ι H nx nx' w ι' H' w' := by
  obtain ⟨h1, _, _⟩ := cIns_some hI
  have hb : I.act ≠ .p .bad := by
    intro e1; rw [e1] at hr; simp [Act1.run, POp.run] at hr
  have hop := cAct_some h1 hb
  have hd := noDefer_of hop
  have he' : EnvRel ι e (actOf tm).tmps := he
  cases ha : I.act with
  | p x =>
    rw [ha] at hr hop
    simp only [Act1.run] at hr
    split at hr
    case h_2 => simp at hr
    rename_i v0 hv
    simp at hr; obtain ⟨rfl, rfl, rfl⟩ := hr
    obtain ⟨u, g1, g2⟩ := pop_run (O := o) hop he' hv w
    exact ⟨ι, w, u, s_opVal ho hw hd g1, g2, hH, St.refl ..⟩
  | r x =>
    rw [ha] at hr hop
    simp only [Act1.run] at hr
    split at hr
    case h_2 => simp at hr
    rename_i v0 hv
    simp at hr; obtain ⟨rfl, rfl, rfl⟩ := hr
    obtain ⟨u, g1, g2⟩ := rop_run (O := o) hop he' hH hv
    exact ⟨ι, w, u, s_opVal ho hw hd g1, g2, hH, St.refl ..⟩
  | a x =>
    rw [ha] at hr hop
    simp only [Act1.run] at hr
    split at hr
    case h_2 => simp at hr
    rename_i v0 ob hv
    simp at hr; obtain ⟨rfl, rfl, rfl⟩ := hr
    obtain ⟨ι', w', u, g1, g2, g3, g4⟩ := lop_run (O := o) hop he' hH (hf nx (Nat.le_refl _) (by rw [S.toNat_succ]; omega)) hv
    exact ⟨ι', w', u, s_opVal ho hw hd g1, g2, g3, g4⟩
  | e x =>
    rw [ha] at hr hop
    simp only [Act1.run] at hr
    split at hr
    case h_2 => simp at hr
    rename_i v0 h0 hv
    simp at hr; obtain ⟨rfl, rfl, rfl⟩ := hr
    obtain ⟨skip, ι', w', u, g1, g2, g3, g4⟩ := eop_run (O := o) hop he' hH (hf nx (Nat.le_refl _) (by rw [S.toNat_succ]; omega)) hv
    cases skip with
    | false => exact ⟨ι', w', u, s_opVal ho hw hd g1, g2, g3, g4⟩
    | true => exact ⟨ι', w', undef, s_opSkip ho hw hd g1, g2, g3, g4⟩
  | call f args =>
    rw [ha] at hr hop
    obtain ⟨c, fo, as, e1, e2, e3, e4⟩ := cOp_call hop (.inl ⟨f, args, rfl⟩)
    rcases e4 with ⟨g, rfl, e5⟩ | ⟨_, _, e5⟩
    case inr => simp at e5
    simp at e5; obtain ⟨rfl, rfl⟩ := e5
    have hvs : VRels ι (evL e args) (c.args.map (actOf tm).eval).toList := by simpa using cOpds_rel he' e3
    obtain ⟨⟨fd, f1, f2, f3⟩, hres⟩ := hc (.fn f) _ _ _ _ _ _ hr ι w _ hvs hH (hwf (by rw [ha]; rfl)) hf
    obtain ⟨ι', w', u, g1, g2, g3, g4⟩ := hres (Fr fn rd tm df (.inRegion ops (i :: rest) :: k)) cs
    refine ⟨ι', w', u, .trans (s_opEnter ho hw hd (f := f) (args := c.args.map (actOf tm).eval) (w' := w) ?_) ?_, g2, g3, g4⟩
    · obtain ⟨dst, op, ty, pos, after, guard⟩ := o
      simp only at e1; subst e1
      simp [execOp, resolve, e2, Deferred.ofValue, invoke, Act.eval, Sem.run_bind]
      exact run_callFunc f1 f2 f3
    · rw [Fr_finish, ho] at g1; exact g1
  | callv f args =>
    rw [ha] at hr hop
    obtain ⟨c, fo, as, e1, e2, e3, e4⟩ := cOp_call hop (.inr ⟨f, args, rfl⟩)
    rcases e4 with ⟨_, _, e5⟩ | ⟨f', hf', e5⟩
    case inl => simp at e5
    simp at e5; obtain ⟨rfl, rfl⟩ := e5
    have hvs : VRels ι (evL e args) (c.args.map (actOf tm).eval).toList := by simpa using cOpds_rel he' e3
    have hfv := cOpd_rel he' hf'
    simp only [Act1.run, callvA] at hr
    split at hr
    case h_3 => simp at hr
    · rename_i g first capt e6
      rw [e6] at hfv
      obtain ⟨vs, ws, e7, q1, q2⟩ := hfv
      have hvs2 : VRels ι (first ++ evL e args ++ capt) ((vs ++ c.args.map (actOf tm).eval) ++ ws).toList := by
        have := (q1.append hvs).append q2
        simpa using this
      obtain ⟨⟨fd, f1, f2, f3⟩, hres⟩ := hc (.fn g) _ _ _ _ _ _ hr ι w _ hvs2 hH (hwf (by rw [ha]; rfl)) hf
      obtain ⟨ι', w', u, g1, g2, g3, g4⟩ := hres (Fr fn rd tm df (.inRegion ops (i :: rest) :: k)) cs
      refine ⟨ι', w', u, .trans (s_opEnter ho hw hd (f := g) (args := (vs ++ c.args.map (actOf tm).eval) ++ ws) (w' := w) ?_) ?_, g2, g3, g4⟩
      · obtain ⟨dst, op, ty, pos, after, guard⟩ := o
        simp only at e1; subst e1
        simp only [execOp, resolve, e2, e7, Deferred.ofValue, pure_bind, invoke]
        exact run_callFunc f1 f2 f3
      · rw [Fr_finish, ho] at g1; exact g1
    · rename_i l e6
      rw [e6] at hfv
      obtain ⟨r, q, e7, e8⟩ := hfv
      obtain ⟨lp, f1, f2, hres⟩ := hc (.rd l) _ _ _ _ _ _ hr ι w _ hvs hH (hwf (by rw [ha]; rfl)) hf r q e7
      obtain ⟨ι', w', u, g1, g2, g3, g4⟩ := hres (Fr fn rd tm df (.inRegion ops (i :: rest) :: k)) cs
      have hrun : (execOp (actOf tm).eval o).run P w = .ok (.round r lp.fn (roundTmps lp (c.args.map (actOf tm).eval)) lp.assign lp.body) w := by
        obtain ⟨dst, op, ty, pos, after, guard⟩ := o
        simp only at e1; subst e1
        simp only [execOp, resolve, e2, e8, Deferred.ofValue, pure_bind, invoke, Array.empty_append]
        exact run_yield f1 f2
      refine ⟨ι', w', u, .trans (s_opRound ho hw hd hrun) ?_, g2, g3, g4⟩
      rw [Fr_finish, ho] at g1; exact g1
end
end Go.Ab
