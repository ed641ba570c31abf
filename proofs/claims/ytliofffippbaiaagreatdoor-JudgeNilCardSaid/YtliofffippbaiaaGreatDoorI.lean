import Derived.Laws.IdiomCopy
import Derived.Test.YtliofffippbaiaaGreatDoorA6
import Derived.Test.YtliofffippbaiaaGreatDoorProg
import Derived.Shelf.RegionOpenPlain
import Derived.WalkKit
import Derived.WalkSpells
import Derived.Lib.Walk
import Derived.Lib.SliceRun
import Derived.Lib.Overlaps
import Derived.Lib.AppendZerosOnto
import Derived.Laws.Externs
import Derived.Laws.NewBlocks
namespace Go.Ab
open Go
theorem run_copy4 {P : Program} (w : World) (dT sT ty elem : TypeId) (b o dLen dCap : Nat) (a : Addr) (sLen sCap : Nat) (cs : List Value)
    (hu : P.underlying dT = some (.slice elem)) (hs : (P.info? elem).map (·.size) = some 4) (hn : cs.length = Nat.min sLen dLen * 4)
    (hsrc : ∀ j v, cs[j]? = some v → w.cell? (a.add j) = some v) (hc : ∀ j, j < cs.length → (w.cell? ⟨b, o + j, none⟩).isSome = true) (hf : ∀ j, j < cs.length → w.frozen? ⟨b, o + j, none⟩ = false) (h1 : ∀ v ∈ cs, v.oneCell' = true) :
    (Builtin.copy_ #[dT, sT] ty #[.slice (some ⟨b, o, none⟩) dLen dCap, .slice (some a) sLen sCap]).run P w = .ok (goInt (Nat.min sLen dLen : Nat)) (w.setCells b o cs) := by
  have hl := run_loadCells_list (P := P) w a cs hsrc
  have hst := run_storeCells_cells (P := P) b o cs 0 w (by simpa using hc) (by simpa using hf) h1
  cases hq : P.info? elem with
  | none => simp [hq] at hs
  | some i =>
    have hi : i.size = 4 := by simpa [hq] using hs
    simp [Builtin.copy_, run_underlying hu, Builtin.lenOf, Builtin.firstCells, sizeOf, typeInfo, hq, hi, ← hn, hl, hst]
end Go.Ab
/- The two walks through slices.Insert at []api.Item. -/
set_option linter.unusedVariables false
set_option linter.unusedSimpArgs false
namespace Go.Ab.T
open Go Go.Ab Go.Proofs Go.Shelf Go.RowKit Go.Lib

section
variable {P : Program}
theorem wp_copy_runI (w : World) {o : Oper} {a : Act} {K : Act → World → Prop} {Q : Exit → Act → World → Prop} (d s : Operand) (t t' : TypeId)
    (ho : o.op = .call { callee := .builtin .copy, args := #[d, s], argTypes := #[t, t'] }) (v u : Value) (hd : a.eval d = v) (hs : a.eval s = u) {v' : Value} {w' : World}
    (hr : (Builtin.copy_ #[t, t'] o.type #[v, u]).run P w = .ok v' w') (h : K (a.put o.dst v') w') : o.wp P a w K Q := by
  unfold Oper.wp execOp
  simp only [ho, resolve, invoke, builtin, Sem.run_bind, Sem.run_pure, Result.andThen_ok, List.map_toArray, List.map_cons, List.map_nil, hd, hs, hr]
  exact h
theorem wpList_copy_runI (w : World) {ops : Array Oper} {rest : List Oper} {o : Oper} {a : Act} {Q : Exit → Act → World → Prop} (hgd : o.guard = none) (d s : Operand) (t t' : TypeId)
    (ho : o.op = .call { callee := .builtin .copy, args := #[d, s], argTypes := #[t, t'] }) (v u : Value) (hd : a.eval d = v) (hs : a.eval s = u) {v' : Value} {w' : World}
    (hr : (Builtin.copy_ #[t, t'] o.type #[v, u]).run P w = .ok v' w') (h : wpList P ops Q rest (a.put o.dst v') w') : wpList P ops Q (o :: rest) a w :=
  wpList_plain hgd fun _ hK => wp_copy_runI w d s t t' ho v u hd hs hr (hK _ _ h)
theorem step_copy_runI {ops : Array Oper} {o : Oper} {a : Act} {w : World} {K : Act → World → Prop} {Q : Exit → Act → World → Prop} {E : Prop}
    (hg : o.guard = none) (d x : Operand) (dT sT : TypeId) (hop : o.op = Op.call { callee := Callee.builtin Builtin.copy, args := #[d, x], argTypes := #[dT, sT] })
    (v u : Value) (hd : a.eval d = v) (hx : a.eval x = u) {v' : Value} {w' : World} (hr : (Builtin.copy_ #[dT, sT] o.type #[v, u]).run P w = .ok v' w') (hK : K (a.put o.dst v') w') :
    if Region.wanted o (yielded ops a.tmps) = true then Oper.wp P o a w K Q else E := by
  have hw : Region.wanted o (yielded ops a.tmps) = true := by simp [Region.wanted, hg]
  rw [if_pos hw]
  unfold Oper.wp
  simp [execOp, hop, resolve, invoke, builtin, hd, hx, hr, Result.andThen]
  exact hK
theorem isSome_setCells (b : Nat) (vs : List Value) (o : Nat) (w : World) (h : ∀ j, j < vs.length → (w.cell? ⟨b, o + j, none⟩).isSome = true) (k : Nat) (hk : (w.cell? ⟨b, k, none⟩).isSome = true) : ((w.setCells b o vs).cell? ⟨b, k, none⟩).isSome = true := by
  by_cases hin : o ≤ k ∧ k < o + vs.length
  · have := World.cell?_setCells_in b vs o w h (k - o) (by omega)
    rw [show o + (k - o) = k by omega] at this
    rw [this]; rfl
  · rw [World.cell?_setCells_out b vs o w ⟨b, k, none⟩ (fun _ _ => by show k < o ∨ o + vs.length ≤ k; omega)]
    exact hk
end

theorem t131 : Tryz.prog.underlying 131 = some (.slice 134) := by kernel_rfl
theorem t3 : Tryz.prog.underlying 3 = some (.int .i64) := by kernel_rfl
theorem t4 : Tryz.prog.underlying 4 = some .bool := by kernel_rfl
theorem s133 : (Tryz.prog.info? 134).map (·.size) = some 4 := by kernel_rfl

set_option maxHeartbeats 4000000 in
set_option maxRecDepth 100000 in
theorem walk_shift (b off n c i vb voff m vc : Nat) (cs vs : List Value) (w : World) (hi : i < n) (hm : 0 < m) (hroom : n + m ≤ c) (hlim : n + m ≤ 1073741824) (hvb : vb ≠ b)
    (hcl : cs.length = n * 4) (hvl : vs.length = m * 4)
    (hcs : ∀ j v, cs[j]? = some v → w.cell? ⟨b, off + j, none⟩ = some v) (hsp : ∀ j, j < (n + m) * 4 → (w.cell? ⟨b, off + j, none⟩).isSome = true) (hfz : ∀ j, j < (n + m) * 4 → w.frozen? ⟨b, off + j, none⟩ = false)
    (hvs : ∀ j v, vs[j]? = some v → w.cell? ⟨vb, voff + j, none⟩ = some v) (h1c : ∀ v ∈ cs, v.oneCell' = true) (h1v : ∀ v ∈ vs, v.oneCell' = true)
    (tA tB : TypeId) (kA kB : Nat) (hsa : w.shape? vb = some (tA, kA)) (hsb : w.shape? b = some (tB, kB)) (hkB : kB ≠ 0) (hfa : w.frozen? ⟨vb, voff, none⟩ = false) (hfe : w.frozen? ⟨vb, kA, none⟩ = false) :
    Calls Tryz.prog 247 #[.slice (some ⟨b, off, none⟩) n c, .int .i64 i, .slice (some ⟨vb, voff, none⟩) m vc] w fun e w' =>
      e = .returned (.slice (some ⟨b, off, none⟩) (n + m) c) ∧ w' = (w.drew.setCells b (off + (i + m) * 4) (cs.drop (i * 4))).setCells b (off + i * 4) vs := by
  have t131 := t131; have t3 := t3; have t4 := t4
  have u131 := run_underlying t131; have u3 := run_underlying t3; have u4 := run_underlying t4
  have z131 : ∀ w, (Go.sizeOf 134).run Tryz.prog w = .ok 4 w := fun w => by kernel_rfl
  have hz1 : ¬ ((m : Int) = 0) := by omega
  have hz2 : ¬ ((i : Int) = (n : Int)) := by omega
  have hov : ∀ lb cb, (callFunc 308 #[.slice (some ⟨vb, voff, none⟩) m vc, .slice (some ⟨b, off + (i + m) * 4, none⟩) lb cb]).run Tryz.prog w = .ok (.value (.bool false)) w := fun lb cb => by
    rw [run_callFunc_extern Tryz.func308 (by kernel_rfl) (by kernel_rfl) (by kernel_rfl) (e := Extern.SlicesOverlaps.overlaps #[131, 131] #[4]) (by kernel_rfl),
      Lib.run_overlaps_apart w 131 4 134 t131 4 z131 ⟨vb, voff, none⟩ ⟨b, off + (i + m) * 4, none⟩ m vc lb cb hvb tA tB kA kB hsa hsb hkB hfa hfe]
    rfl
  have hdl : (cs.drop (i * 4)).length = (n - i) * 4 := by rw [List.length_drop, hcl]; omega
  have mixed : Tryz.prog.follows .mixedOrders = true := by kernel_rfl
  have hw1 : IntKind.i64.wrap ((i : Int) + (m : Int)) = (i : Int) + (m : Int) := by rw [IntKind.wrap_i64]; omega
  have hb1 : (0 : Int) ≤ (i : Int) + (m : Int) := by omega
  have hin : i ≤ n := by omega
  have htn : ((i : Int) + (m : Int)).toNat = i + m := by omega
  have hb2 : ¬ (c = i + m) := by omega
  have hb3 : (i : Int) ≤ (n : Int) + (m : Int) := by omega
  have hb4 : ¬ (c = i) := by omega
  have hcp1 : ∀ ty dc sc, (Builtin.copy_ #[131, 131] ty #[.slice (some ⟨b, off + (i + m) * 4, none⟩) (n + m - (i + m)) dc, .slice (some ⟨b, off + i * 4, none⟩) (n + m - i) sc]).run Tryz.prog w.drew = .ok (goInt ((n - i : Nat) : Int)) (w.drew.setCells b (off + (i + m) * 4) (cs.drop (i * 4))) := fun ty dc sc => by
    have h := run_copy4 (P := Tryz.prog) w.drew 131 131 ty 134 b (off + (i + m) * 4) (n + m - (i + m)) dc ⟨b, off + i * 4, none⟩ (n + m - i) sc (cs.drop (i * 4)) t131 s133 (by rw [hdl]; simp only [Nat.min_def]; split <;> omega)
      (fun j v hj => by rw [Addr.add_lit, Nat.add_assoc]; exact hcs (i * 4 + j) v (by rwa [List.getElem?_drop] at hj))
      (fun j hj => by rw [Nat.add_assoc]; exact hsp _ (by omega)) (fun j hj => by rw [Nat.add_assoc]; exact hfz _ (by omega)) (fun v hv => h1c v (List.mem_of_mem_drop hv))
    rw [h]
    rw [show Nat.min (n + m - i) (n + m - (i + m)) = n - i by simp only [Nat.min_def]; split <;> omega]
  obtain ⟨W1, hW1⟩ : ∃ W1, W1 = w.drew.setCells b (off + (i + m) * 4) (cs.drop (i * 4)) := ⟨_, rfl⟩
  have hsp1 : ∀ k, k < (n + m) * 4 → (W1.cell? ⟨b, off + k, none⟩).isSome = true := fun k hk => by
    rw [hW1]
    exact isSome_setCells b _ _ _ (fun j hj => by rw [Nat.add_assoc]; exact hsp _ (by omega)) _ (hsp k hk)
  have hcp2 : ∀ (W : World), (∀ x, W.cell? x = W1.cell? x) → (∀ x, W.frozen? x = W1.frozen? x) → ∀ ty dc, (Builtin.copy_ #[131, 131] ty #[.slice (some ⟨b, off + i * 4, none⟩) (n + m - i) dc, .slice (some ⟨vb, voff, none⟩) m vc]).run Tryz.prog W = .ok (goInt (m : Int)) (W.setCells b (off + i * 4) vs) := fun W hWc hWf ty dc => by
    have h := run_copy4 (P := Tryz.prog) W 131 131 ty 134 b (off + i * 4) (n + m - i) dc ⟨vb, voff, none⟩ m vc vs t131 s133 (by rw [hvl]; simp only [Nat.min_def]; split <;> omega)
      (fun j v hj => by
        rw [Addr.add_lit, hWc, hW1, World.cell?_setCells_out b _ _ _ _ (fun h _ => absurd h hvb)]
        exact hvs j v hj)
      (fun j hj => by rw [hWc, Nat.add_assoc]; exact hsp1 _ (by omega)) (fun j hj => by rw [hWf, hW1, World.frozen?_setCells, Nat.add_assoc]; exact hfz _ (by omega)) h1v
    rw [h]
    rw [show Nat.min m (n + m - i) = m by simp only [Nat.min_def]; split <;> omega]
  rw [← hW1] at hcp1
  go_enter Tryz.func247, Tryz.ntmps247
  go_wp2_with (simp only [hov])
  go_region_law_o (refine step_copy_runI rfl _ _ 131 131 rfl _ _ (by simp [Act.eval, Act.put]) (by simp [Act.eval, Act.put]) (hcp1 _ _ _) ?_)
  go_wp2_with (at_builtin; refine wpList_copy_runI _ rfl _ _ 131 131 rfl _ _ rfl rfl (hcp2 _ (fun _ => rfl) (fun _ => rfl) _ _) ?_)
  go_ret
  first | exact ⟨rfl, rfl⟩ | exact ⟨rfl, by rw [hW1]⟩
def zv : Value := .agg #[.int .i64 0, .int .i64 0, .int .i64 0, .int .i64 0]
theorem i134 : (Tryz.prog.info? 134).map (fun i => (i.zero, i.size, i.bytes)) = some (some zv, 4, 32) := by kernel_rfl
theorem zsz (k : Nat) : (Builtin.zeroCells zv.cells k).size = k * 4 := by simp [Builtin.zeroCells, zv, Value.cells]

set_option maxHeartbeats 4000000 in
set_option maxRecDepth 100000 in
theorem walk_grow (b off n c i vb voff m vc : Nat) (cs vs : List Value) (w : World) (hi : i < n) (hm : 0 < m) (hnc : n ≤ c) (hroom : c < n + m) (hbig : (n + m) * 32 ≤ 2 ^ 36)
    (hcl : cs.length = n * 4) (hvl : vs.length = m * 4)
    (hcs : ∀ j v, cs[j]? = some v → w.cell? ⟨b, off + j, none⟩ = some v)
    (hvs : ∀ j v, vs[j]? = some v → w.cell? ⟨vb, voff + j, none⟩ = some v) (h1c : ∀ v ∈ cs, v.oneCell' = true) (h1v : ∀ v ∈ vs, v.oneCell' = true) :
    Calls Tryz.prog 247 #[.slice (some ⟨b, off, none⟩) n c, .int .i64 i, .slice (some ⟨vb, voff, none⟩) m vc] w fun e w' =>
      e = .returned (.slice (some ⟨w.heap.size, 0, none⟩) (n + m) (grownCap w (n + m) c 134)) ∧
      w' = (((w.alloc (.cells ((cs.take (i * 4)).toArray ++ Builtin.zeroCells zv.cells (n + m - i) ++ Builtin.zeroCells zv.cells (grownCap w (n + m) c 134 - (n + m))) 134)).drew.setCells w.heap.size (i * 4) vs).drew).setCells w.heap.size ((i + m) * 4) (cs.drop (i * 4)) := by
  have t131 := t131; have t3 := t3; have t4 := t4
  have u131 := run_underlying t131; have u3 := run_underlying t3; have u4 := run_underlying t4
  have z131 : ∀ w, (Go.sizeOf 134).run Tryz.prog w = .ok 4 w := fun w => by kernel_rfl
  have mixed : Tryz.prog.follows .mixedOrders = true := by kernel_rfl
  obtain ⟨i0, hi0, hz0, hzs, hzb⟩ := info_parts i134
  have hlim : n + m ≤ 2147483648 := by omega
  have hz1 : ¬ ((m : Int) = 0) := by omega
  have hz2 : ¬ ((i : Int) = (n : Int)) := by omega
  have hz3 : (c : Int) < (n : Int) + (m : Int) := by omega
  have hbw : b < w.heap.size := block_lt_of_cell (hcs 0 _ (List.getElem?_eq_getElem (by omega)))
  have hvw : vb < w.heap.size := block_lt_of_cell (hvs 0 _ (List.getElem?_eq_getElem (by omega)))
  have hkk : (n : Int) + (m : Int) - (i : Int) = ((n + m - i : Nat) : Int) := by omega
  have hik : i + (n + m - i) = n + m := by omega
  have hold : (Builtin.firstCells i0.size i (.slice (some ⟨b, off, none⟩) i c)).run Tryz.prog w.drew = .ok (cs.take (i * 4)).toArray w.drew := by
    rw [hzs]
    exact run_firstCells_some w.drew 4 i ⟨b, off, none⟩ i c (cs.take (i * 4)) (by rw [List.length_take]; omega) (fun j v hj => by
      rw [Addr.add_lit]
      rw [List.getElem?_take] at hj
      split at hj
      · exact hcs j v hj
      · cases hj)
  have hnext := nextcap_le (n + m) c hroom
  have hfit : Builtin.nextslicecap (n + m) c * 32 ≤ 281474976710656 := by
    have := Nat.mul_le_mul_right 32 hnext
    omega
  have hrz : ∀ ty, (Builtin.append_ #[131, 3] ty #[.slice (some ⟨b, off, none⟩) i c, .int .i64 ((n : Int) + (m : Int) - (i : Int))]).run Tryz.prog w =
      .ok (.slice (some ⟨w.heap.size, 0, none⟩) (n + m) (grownCap w (n + m) c 134)) (w.drew.alloc (.cells ((cs.take (i * 4)).toArray ++ Builtin.zeroCells zv.cells (n + m - i) ++ Builtin.zeroCells zv.cells (grownCap w (n + m) c 134 - (n + m))) 134)) := fun ty => by
    have h := Lib.run_append_grow_zeros (P := Tryz.prog) w 131 3 ty 134 i0 _ .i64 .i64 t131 t3 hi0 hz0 (some ⟨b, off, none⟩) i c (cs.take (i * 4)) hold (n + m - i) (by omega) (by omega) (by omega) (by omega) (by rw [hzb]; omega) (by rw [hzb, hik]; exact hfit)
    rw [hik] at h
    rw [hkk]
    exact h
  obtain ⟨G, hG⟩ : ∃ G, G = grownCap w (n + m) c 134 := ⟨_, rfl⟩
  obtain ⟨ROW, hROW⟩ : ∃ ROW : Array Value, ROW = (cs.take (i * 4)).toArray ++ Builtin.zeroCells zv.cells (n + m - i) ++ Builtin.zeroCells zv.cells (G - (n + m)) := ⟨_, rfl⟩
  rw [← hG] at hrz ⊢
  rw [← hROW] at hrz ⊢
  have hRl : (n + m) * 4 ≤ ROW.size := by
    rw [hROW]
    simp only [Array.size_append, zsz, List.size_toArray, List.length_take]
    omega
  obtain ⟨W1, hW1⟩ : ∃ W1, W1 = w.drew.alloc (.cells ROW 134) := ⟨_, rfl⟩
  rw [← hW1] at hrz
  have hN : ∀ j, j < (n + m) * 4 → (W1.cell? ⟨w.heap.size, j, none⟩).isSome = true := fun j hj => by
    rw [hW1, World.cell?_alloc_at (w := w.drew) ROW _ w.heap.size j rfl, Array.getElem?_eq_getElem (by omega)]; rfl
  have hNf : ∀ j, W1.frozen? ⟨w.heap.size, j, none⟩ = false := fun j => by rw [hW1]; exact World.frozen?_alloc_at (w := w.drew) ROW _ w.heap.size j rfl
  have hOb : ∀ j v, w.cell? ⟨b, j, none⟩ = some v → W1.cell? ⟨b, j, none⟩ = some v := fun j v h => by rw [hW1, World.cell?_alloc_past (w := w.drew) _ b j hbw]; exact h
  have hOv : ∀ j v, w.cell? ⟨vb, j, none⟩ = some v → W1.cell? ⟨vb, j, none⟩ = some v := fun j v h => by rw [hW1, World.cell?_alloc_past (w := w.drew) _ vb j hvw]; exact h
  have hcpA : ∀ (W : World), (∀ x, W.cell? x = W1.cell? x) → (∀ x, W.frozen? x = W1.frozen? x) → ∀ ty dc, (Builtin.copy_ #[131, 131] ty #[.slice (some ⟨w.heap.size, i * 4, none⟩) (n + m - i) dc, .slice (some ⟨vb, voff, none⟩) m vc]).run Tryz.prog W = .ok (goInt (m : Int)) (W.setCells w.heap.size (i * 4) vs) := fun W hWc hWf ty dc => by
    have h := run_copy4 (P := Tryz.prog) W 131 131 ty 134 w.heap.size (i * 4) (n + m - i) dc ⟨vb, voff, none⟩ m vc vs t131 s133 (by rw [hvl]; simp only [Nat.min_def]; split <;> omega)
      (fun j v hj => by rw [Addr.add_lit, hWc]; exact hOv _ v (hvs j v hj))
      (fun j hj => by rw [hWc]; exact hN _ (by omega)) (fun j hj => by rw [hWf]; exact hNf _) h1v
    rw [h]
    rw [show Nat.min m (n + m - i) = m by simp only [Nat.min_def]; split <;> omega]
  have hGn : n + m ≤ G := by rw [hG]; exact grownCap_ge w _ _ _
  have hGi : ¬ (G = i) := by omega
  have hGim : ¬ (G = i + m) := by omega
  have hci : ¬ (c = i) := by omega
  have hbN : b ≠ w.heap.size := by omega
  have hdl : (cs.drop (i * 4)).length = (n - i) * 4 := by rw [List.length_drop, hcl]; omega
  have hcpB : ∀ (W : World), (∀ x, W.cell? x = (W1.setCells w.heap.size (i * 4) vs).cell? x) → (∀ x, W.frozen? x = (W1.setCells w.heap.size (i * 4) vs).frozen? x) → ∀ ty dc sc, (Builtin.copy_ #[131, 131] ty #[.slice (some ⟨w.heap.size, (i + m) * 4, none⟩) (n + m - (i + m)) dc, .slice (some ⟨b, off + i * 4, none⟩) (n - i) sc]).run Tryz.prog W = .ok (goInt ((n - i : Nat) : Int)) (W.setCells w.heap.size ((i + m) * 4) (cs.drop (i * 4))) := fun W hWc hWf ty dc sc => by
    have h := run_copy4 (P := Tryz.prog) W 131 131 ty 134 w.heap.size ((i + m) * 4) (n + m - (i + m)) dc ⟨b, off + i * 4, none⟩ (n - i) sc (cs.drop (i * 4)) t131 s133 (by rw [hdl]; simp only [Nat.min_def]; split <;> omega)
      (fun j v hj => by
        rw [Addr.add_lit, hWc, World.cell?_setCells_out _ _ _ _ _ (fun h _ => absurd h hbN), Nat.add_assoc]
        exact hOb _ v (hcs (i * 4 + j) v (by rwa [List.getElem?_drop] at hj)))
      (fun j hj => by rw [hWc]; exact isSome_setCells _ _ _ _ (fun t ht => hN _ (by omega)) _ (hN _ (by omega)))
      (fun j hj => by rw [hWf, World.frozen?_setCells]; exact hNf _) (fun v hv => h1c v (List.mem_of_mem_drop hv))
    rw [h]
    rw [show Nat.min (n - i) (n + m - (i + m)) = n - i by simp only [Nat.min_def]; split <;> omega]
  subst hW1
  have hE1 : ∀ x, ((w.alloc (.cells ROW 134)).drew).cell? x = (w.drew.alloc (.cells ROW 134)).cell? x := fun x => rfl
  have hE2 : ∀ x, ((w.alloc (.cells ROW 134)).drew).frozen? x = (w.drew.alloc (.cells ROW 134)).frozen? x := fun x => rfl
  have hF1 : ∀ x, (((w.alloc (.cells ROW 134)).drew.setCells w.heap.size (i * 4) vs).drew).cell? x = ((w.drew.alloc (.cells ROW 134)).setCells w.heap.size (i * 4) vs).cell? x := fun x => rfl
  have hF2 : ∀ x, (((w.alloc (.cells ROW 134)).drew.setCells w.heap.size (i * 4) vs).drew).frozen? x = ((w.drew.alloc (.cells ROW 134)).setCells w.heap.size (i * 4) vs).frozen? x := fun x => rfl
  have hw1 : IntKind.i64.wrap ((i : Int) + (m : Int)) = (i : Int) + (m : Int) := by rw [IntKind.wrap_i64]; omega
  have hb1 : (0 : Int) ≤ (i : Int) + (m : Int) := by omega
  have hin : i ≤ n := by omega
  have htn : ((i : Int) + (m : Int)).toNat = i + m := by omega
  have hb3 : (i : Int) ≤ (n : Int) := by omega
  clear hkk hik hold hROW hG hRl
  go_enter Tryz.func247, Tryz.ntmps247
  go_wp2_with (first
    | (at_builtin; refine Lib.wpList_append_run _ rfl _ _ _ _ rfl _ _ rfl rfl _ _ (hrz _) ?_)
    | (at_builtin; refine wpList_copy_runI _ rfl _ _ 131 131 rfl _ _ rfl rfl (hcpA _ hE1 hE2 _ _) ?_)
    | (at_builtin; refine wpList_copy_runI _ rfl _ _ 131 131 rfl _ _ rfl rfl (hcpB _ (fun _ => rfl) (fun _ => rfl) _ _ _) ?_))
  go_region_law_o (refine step_copy_runI rfl _ _ 131 131 rfl (.slice (some ⟨w.heap.size, (i + m) * 4, none⟩) (n + m - (i + m)) (G - (i + m))) (.slice (some ⟨b, off + i * 4, none⟩) (n - i) (c - i)) (by simp [Act.eval, Act.put]) (by simp [Act.eval, Act.put]) (hcpB _ hF1 hF2 3 (G - (i + m)) (c - i)) ?_)
  go_wp2
  go_ret
  exact ⟨rfl, rfl⟩
theorem setCells_rows (b : Nat) : ∀ (vs : List Value) (o : Nat) (w : World) (C : Array Value) (el : TypeId) (fz : Nat × Nat), w.heap[b]? = some (.cells C el fz) → o + vs.length ≤ C.size →
    ∃ C', (w.setCells b o vs).heap[b]? = some (.cells C' el fz) ∧ C'.size = C.size ∧ (∀ j, C'[j]? = if o ≤ j ∧ j < o + vs.length then vs[j - o]? else C[j]?) ∧
      (w.setCells b o vs).heap.size = w.heap.size ∧ (∀ r', r' ≠ b → (w.setCells b o vs).heap[r']? = w.heap[r']?) ∧ (w.setCells b o vs).tape = w.tape ∧ (w.setCells b o vs).os = w.os ∧ (w.setCells b o vs).output = w.output
  | [], o, w, C, el, fz, h, _ => ⟨C, h, rfl, fun j => by simp; omega, rfl, fun _ _ => rfl, rfl, rfl, rfl⟩
  | v :: vs, o, w, C, el, fz, h, hl => by
    simp only [List.length_cons] at hl
    have hrow : (w.setCell ⟨b, o, none⟩ v).heap[b]? = some (.cells (C.setIfInBounds o v) el fz) := by
      simp [World.setCell, Array.getElem?_modify, h]
    obtain ⟨C', g1, g2, g3, g4, g5, g6, g7, g8⟩ := setCells_rows b vs (o + 1) (w.setCell ⟨b, o, none⟩ v) _ el fz hrow (by simp; omega)
    refine ⟨C', g1, by simpa using g2, fun j => ?_, by rw [World.setCells, g4]; simp [World.setCell], fun r' hr' => ?_, g6, g7, g8⟩
    · rw [g3 j]
      simp only [List.length_cons]
      by_cases e : j = o
      · subst e
        rw [if_neg (by omega), if_pos (by omega)]
        have : j < C.size := by omega
        simp [Array.getElem?_setIfInBounds, this]
      · by_cases e2 : o + 1 ≤ j ∧ j < o + 1 + vs.length
        · rw [if_pos e2, if_pos (by omega)]
          rw [show j - o = (j - (o + 1)) + 1 by omega, List.getElem?_cons_succ]
        · rw [if_neg e2, if_neg (by omega)]
          rw [Array.getElem?_setIfInBounds, if_neg (by omega)]
    · rw [World.setCells, g5 r' hr']
      simp only [World.setCell, Array.getElem?_modify]
      rw [if_neg (by omega)]
theorem part_get (C : Array Value) (p k j : Nat) : ((C.toList.drop p).take k)[j]? = if j < k then C[p + j]? else none := by
  rw [List.getElem?_take]
  split
  · rw [List.getElem?_drop, Array.getElem?_toList]
  · rfl
theorem part_len (C : Array Value) (p k : Nat) (h : p + k ≤ C.size) : ((C.toList.drop p).take k).length = k := by
  rw [List.length_take, List.length_drop, Array.length_toList]; omega
theorem part_one {C : Array Value} {p k : Nat} (h : ∀ j, j < k → ∃ x, C[p + j]? = some x ∧ x.oneCell' = true) : ∀ v ∈ (C.toList.drop p).take k, v.oneCell' = true := by
  intro v hv
  obtain ⟨j, hj⟩ := List.mem_iff_getElem?.1 hv
  rw [part_get] at hj
  split at hj
  · rename_i hlt
    obtain ⟨x, h1, h2⟩ := h j hlt
    rw [h1] at hj; simp at hj; subst hj; exact h2
  · simp at hj
theorem part_cell {w : World} {r : Nat} {C : Array Value} {el : TypeId} {fz : Nat × Nat} (h : w.heap[r]? = some (.cells C el fz)) {p k : Nat} : ∀ j v, ((C.toList.drop p).take k)[j]? = some v → w.cell? ⟨r, p + j, none⟩ = some v := by
  intro j v hj
  rw [part_get] at hj
  split at hj
  · simp [World.cell?, h, hj]
  · simp at hj

theorem shiftH : ShiftH Tryz.prog 247 := by
  intro r p n c i rv pv m vc C V el elv fz fzv w hr hrv hne hi hm hroom hlim hC hV hCc hVc hfz hfv hmk
  have hcl := part_len C p (n * 4) (by omega)
  have hvl := part_len V pv (m * 4) hV
  have hw := walk_shift r p n c i rv pv m vc _ _ w hi hm hroom hlim hne hcl hvl (part_cell hr) (fun j hj => by simp [World.cell?, hr]; omega)
    (fun j hj => by simp only [World.frozen?, hr]; exact hfz _ (by omega) (by omega)) (part_cell hrv) (part_one hCc) (part_one hVc) elv el V.size C.size (by simp [World.shape?, hrv]) (by simp [World.shape?, hr]) (by omega)
    (by simp only [World.frozen?, hrv]; exact hfv) (by simp only [World.frozen?, hrv]; exact hmk)
  refine Calls.mono hw fun e w' ⟨h1, h2⟩ => ⟨h1, ?_⟩
  generalize hcs : (C.toList.drop p).take (n * 4) = cs at *
  generalize hvs : (V.toList.drop pv).take (m * 4) = vs at *
  have hdl : (cs.drop (i * 4)).length = (n - i) * 4 := by rw [List.length_drop, hcl]; omega
  obtain ⟨C1, a1, a2, a3, a4, a5, a6, a7, a8⟩ := setCells_rows r (cs.drop (i * 4)) (p + (i + m) * 4) w.drew C el fz hr (by rw [hdl]; omega)
  obtain ⟨C2, b1, b2, b3, b4, b5, b6, b7, b8⟩ := setCells_rows r vs (p + i * 4) _ C1 el fz a1 (by rw [hvl]; omega)
  subst h2
  refine ⟨C2, b1, by omega, fun j hj => ?_, b4.trans a4, fun r' hr' => (b5 r' hr').trans (a5 r' hr'), b6.trans a6, b7.trans a7, b8.trans a8⟩
  rw [b3, hvl]
  by_cases e1 : j < i * 4
  · rw [if_neg (by omega), if_pos e1, a3, if_neg (by omega)]
  · rw [if_neg e1]
    by_cases e2 : j < (i + m) * 4
    · rw [if_pos (by omega), if_pos e2, ← hvs, part_get, if_pos (by omega)]
      congr 1; omega
    · rw [if_neg (by omega), if_neg e2, a3, if_pos (by rw [hdl]; omega), List.getElem?_drop, ← hcs, part_get, if_pos (by omega)]
      congr 1; omega
theorem growH : GrowH Tryz.prog 247 := by
  intro r p n c i rv pv m vc C V el elv fz fzv w hr hrv hne hi hm hnc hroom hbig hC hV hCc hVc
  have hcl := part_len C p (n * 4) (by omega)
  have hvl := part_len V pv (m * 4) hV
  have hw := walk_grow r p n c i rv pv m vc _ _ w hi hm hnc hroom hbig hcl hvl (part_cell hr) (part_cell hrv) (part_one hCc) (part_one hVc)
  refine Calls.mono hw fun e w' ⟨h1, h2⟩ => ?_
  have hGn : n + m ≤ grownCap w (n + m) c 134 := grownCap_ge w _ _ _
  generalize hcs : (C.toList.drop p).take (n * 4) = cs at *
  generalize hvs : (V.toList.drop pv).take (m * 4) = vs at *
  generalize grownCap w (n + m) c 134 = G at *
  have hdl : (cs.drop (i * 4)).length = (n - i) * 4 := by rw [List.length_drop, hcl]; omega
  generalize hROW : (cs.take (i * 4)).toArray ++ Builtin.zeroCells zv.cells (n + m - i) ++ Builtin.zeroCells zv.cells (G - (n + m)) = ROW at *
  have hRl : ROW.size = G * 4 := by
    rw [← hROW]
    simp only [Array.size_append, zsz, List.size_toArray, List.length_take, hcl]
    omega
  have hrow : ((w.alloc (.cells ROW 134)).drew).heap[w.heap.size]? = some (.cells ROW 134 (0, 0)) := by
    show (w.heap.push (.cells ROW 134))[w.heap.size]? = _
    simp
  obtain ⟨C1, a1, a2, a3, a4, a5, a6, a7, a8⟩ := setCells_rows w.heap.size vs (i * 4) _ ROW 134 (0, 0) hrow (by rw [hvl, hRl]; omega)
  obtain ⟨C2, b1, b2, b3, b4, b5, b6, b7, b8⟩ := setCells_rows w.heap.size (cs.drop (i * 4)) ((i + m) * 4) ((w.alloc (.cells ROW 134)).drew.setCells w.heap.size (i * 4) vs).drew C1 134 (0, 0) a1 (by rw [hdl, a2, hRl]; omega)
  refine ⟨G, C2, 134, w'.drawn, hGn, h1, by omega, ?_, fun j hj => ?_⟩
  · subst h2
    have hheap : ((((w.alloc (.cells ROW 134)).drew.setCells w.heap.size (i * 4) vs).drew).setCells w.heap.size ((i + m) * 4) (cs.drop (i * 4))).heap = w.heap.push (.cells C2 134) := by
      apply Array.ext_getElem?
      intro k
      by_cases e : k = w.heap.size
      · subst e; rw [b1]; simp
      · rw [b5 k e]
        show ((w.alloc (.cells ROW 134)).drew.setCells w.heap.size (i * 4) vs).heap[k]? = _
        rw [a5 k e]
        show (w.heap.push (.cells ROW 134))[k]? = _
        rw [Array.getElem?_push, Array.getElem?_push, if_neg e, if_neg e]
    have e1 : ((((w.alloc (.cells ROW 134)).drew.setCells w.heap.size (i * 4) vs).drew).setCells w.heap.size ((i + m) * 4) (cs.drop (i * 4))).tape = w.tape := b6.trans a6
    have e2 : ((((w.alloc (.cells ROW 134)).drew.setCells w.heap.size (i * 4) vs).drew).setCells w.heap.size ((i + m) * 4) (cs.drop (i * 4))).os = w.os := b7.trans a7
    have e3 : ((((w.alloc (.cells ROW 134)).drew.setCells w.heap.size (i * 4) vs).drew).setCells w.heap.size ((i + m) * 4) (cs.drop (i * 4))).output = w.output := b8.trans a8
    generalize ((((w.alloc (.cells ROW 134)).drew.setCells w.heap.size (i * 4) vs).drew).setCells w.heap.size ((i + m) * 4) (cs.drop (i * 4))) = W at *
    cases W
    simp only at hheap e1 e2 e3 ⊢
    subst hheap e1 e2 e3
    rfl
  · rw [b3, hdl]
    by_cases e1 : j < i * 4
    · rw [if_neg (by omega), if_pos e1, a3, if_neg (by omega), ← hROW, Array.append_assoc, Array.getElem?_append_left (by simp only [List.size_toArray, List.length_take]; omega), List.getElem?_toArray, List.getElem?_take, if_pos e1, ← hcs, part_get, if_pos (by omega)]
    · rw [if_neg e1]
      by_cases e2 : j < (i + m) * 4
      · rw [if_neg (by omega), if_pos e2, a3, hvl, if_pos (by omega), ← hvs, part_get, if_pos (by omega)]
      · rw [if_neg e2, if_pos (by omega), List.getElem?_drop, ← hcs, part_get, if_pos (by omega)]
        congr 1; omega
theorem ins247 : GOK Tryz.prog 247 (insA 4 32) := ins_ok shiftH growH
end Go.Ab.T
