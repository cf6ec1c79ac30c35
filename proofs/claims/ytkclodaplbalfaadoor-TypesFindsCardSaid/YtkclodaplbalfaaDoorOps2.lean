/- More steps: what is frozen, rows that grow, maps. Conditions: none. -/
import Derived.Test.YtkclodaplbalfaaDoorOps
import Derived.Laws.AppendOwn
set_option linter.unusedVariables false
set_option linter.unusedSimpArgs false
namespace Go.Proofs.YtkclodaplbalfaaDoor.Sl
open Go

/-! ### what is frozen -/
def Imm.adds (I : Imm) : Own → Imm
  | [] => I
  | p :: Z => (I.add p.1 p.2).adds Z
theorem St.freezes {W : World} {L : Own} : ∀ {Z : Own} {I : Imm}, St W I (Z ++ L) → I.Le (I.adds Z) ∧ St W (I.adds Z) L
  | [], I, h => ⟨.refl I, h⟩
  | (b, o) :: Z, I, h => by
    have h1 := St.freeze (b := b) (o := o) (L := Z ++ L) h
    have h2 := h1.2.freezes
    exact ⟨h1.1.trans h2.1, h2.2⟩
/-- Some blocks are frozen at a function's end, some are let go. -/
def Fin (R : Ending → Imm → Own → Prop) : Ending → Imm → Own → Prop := fun e I L =>
  ∃ Z L2 r, L.Perm (Z ++ (L2 ++ r)) ∧ ∀ J, I.Le J → (∀ p ∈ Z, J.mem p.1 = some p.2) → R e J L2
theorem adds_mem {W : World} {L : Own} {Z : Own} {I : Imm} (h : St W I (Z ++ L)) : ∀ p ∈ Z, (I.adds Z).mem p.1 = some p.2 := by
  induction Z generalizing I with
  | nil => intro p hp; cases hp
  | cons q Z ih =>
    intro p hp
    have h1 := St.freeze (b := q.1) (o := q.2) (L := Z ++ L) h
    rcases List.mem_cons.1 hp with rfl | hp
    · exact (h1.2.freezes.1).mem _ _ (by simp [Imm.add])
    · exact ih h1.2 p hp
section
variable {P : Program} {I : Imm} {L : Own} {k : KV} {X : List PanicEntry → Imm → Own → Prop}
theorem wpC_fin {f : FuncId} {args : Array Value} {R : Ending → Imm → Own → Prop} (h : wpC P f args I L (Fin R)) : wpC P f args I L R := fun F W hs =>
  (h F W hs).mono fun e W' ⟨I', L', h1, h2, Z, L2, r, hp, h3⟩ => by
    have h4 : St W' I' (Z ++ (r ++ (L2 ++ F))) := h2.perm (by
      refine (hp.append_right F).trans ?_
      rw [List.append_assoc, List.append_assoc]
      exact (List.perm_append_comm_assoc L2 r F).append_left Z)
    have h5 := h4.freezes
    exact ⟨I'.adds Z, L2, h1.trans h5.1, h5.2.drop, h3 _ h5.1 (adds_mem h4)⟩
theorem RetC.of {f : FuncId} {args : Array Value} {Rv : Value → Imm → Own → Prop} (h : wpC P f args I L (Fin fun e I' L' => ∃ v, e = .returned v ∧ Rv v I' L')) : RetC P f args I L Rv := wpC_fin h
theorem MutC.ofF {f : FuncId} {args : Array Value} {b : Nat} {o : Obj} {Rv : Value → Imm → Obj → Prop} (h : wpC P f args I [(b, o)] (Fin fun e I' L' => ∃ v o', e = .returned v ∧ L' = [(b, o')] ∧ Rv v I' o')) : MutC P f args I b o Rv := wpC_fin h
/-- nothing is frozen -/
theorem fin_ret {v : Value} {L1 r : Own} {Rv : Value → Imm → Own → Prop} [hf : Foc L L1 r] (h : ∀ J, I.Le J → Rv v J L1) : Fin (fun e I' L' => ∃ v, e = .returned v ∧ Rv v I' L') (.returned v) I L :=
  ⟨[], L1, r, hf.h, fun J hj _ => ⟨v, rfl, h J hj⟩⟩
theorem fin_retZ {v : Value} (Z : Own) {r r2 L1 : Own} {Rv : Value → Imm → Own → Prop} [hf : Foc L Z r] [hg : Foc r L1 r2] (h : ∀ J, I.Le J → (∀ p ∈ Z, J.mem p.1 = some p.2) → Rv v J L1) : Fin (fun e I' L' => ∃ v, e = .returned v ∧ Rv v I' L') (.returned v) I L :=
  ⟨Z, L1, r2, hf.h.trans (hg.h.append_left Z), fun J hj hz => ⟨v, rfl, h J hj hz⟩⟩
theorem fin_mutF {v : Value} {b : Nat} {o : Obj} {r : Own} {Rv : Value → Imm → Obj → Prop} [hf : TakB L b o r] (h : ∀ J, I.Le J → Rv v J o) : Fin (fun e I' L' => ∃ v o', e = .returned v ∧ L' = [(b, o')] ∧ Rv v I' o') (.returned v) I L :=
  ⟨[], [(b, o)], r, hf.h, fun J hj _ => ⟨v, o, rfl, rfl, h J hj⟩⟩
theorem fin_mutZ {v : Value} (Z : Own) {b : Nat} {o : Obj} {r r2 : Own} {Rv : Value → Imm → Obj → Prop} [hf : Foc L Z r] [hg : TakB r b o r2] (h : ∀ J, I.Le J → (∀ p ∈ Z, J.mem p.1 = some p.2) → Rv v J o) : Fin (fun e I' L' => ∃ v o', e = .returned v ∧ L' = [(b, o')] ∧ Rv v I' o') (.returned v) I L :=
  ⟨Z, [(b, o)], r2, hf.h.trans (hg.h.append_left Z), fun J hj hz => ⟨v, o, rfl, rfl, h J hj hz⟩⟩
end
instance (L1 r : Own) : Foc (L1 ++ r) L1 r := ⟨.refl _⟩
instance (priority := low) (L L1 r : Own) (p : Nat × Obj) [h : Foc L L1 r] : Foc (p :: L) L1 (p :: r) := ⟨(h.h.cons p).trans List.perm_middle.symm⟩
instance (priority := low) (A B L1 r : Own) [h : Foc B L1 r] : Foc (A ++ B) L1 (A ++ r) := ⟨(h.h.append_left A).trans (by rw [← List.append_assoc, ← List.append_assoc]; exact List.perm_append_comm.append_right r)⟩
instance (priority := high) (L1 : Own) (b : Nat) (o : Obj) : TakB (L1 ++ [(b, o)]) b o L1 := ⟨List.perm_append_comm⟩
instance (L : Own) : Foc L L [] := ⟨by rw [List.append_nil]⟩
/-- Foc along a list that is known in pieces. -/
instance (priority := low) (L A B r r' : Own) [h : Foc L A r] [h' : Foc r B r'] : Foc L (A ++ B) r' := ⟨h.h.trans (by rw [List.append_assoc]; exact h'.h.append_left A)⟩

section
variable {P : Program} {I : Imm} {L : Own} {k : KV} {X : List PanicEntry → Imm → Own → Prop}
/-- A new variable that nobody changes. -/
theorem bxf_ {e : Nat} {v : Value} (k' : ∀ b J, I.Le J → J.mem b = some (.cells v.cells e) → k (ptr b 0) J L) : bx P e v I L k := fun F W hs => by
  have h1 := hs.new (.cells v.cells e)
  have h2 := St.freeze h1
  exact ⟨I.add W.heap.size (.cells v.cells e), L, h2.1, h2.2, k' _ _ h2.1 (by simp [Imm.add])⟩
theorem RdAt.of {b : Nat} {c : Array Value} {e : TypeId} {fr : Nat × Nat} {vs : List Value} (h : I.mem b = some (.cells c e fr)) (hv : c.toList = vs) : RdAt I b 0 vs := ⟨c, e, fr, h, by simp [hv]⟩
theorem run_bsl {t e n sz y : Nat} {z : Value} {ps : Array (Nat × Value)} {cells : Array Value} [h : TU P t (.slice e)] [hz : TI P e sz y z] (hb : n * sz ≤ 16777216) (hne : n * sz ≠ 0)
    (hf : Instr.fill (fun i => some (i * sz, sz)) ((Array.range (n * sz)).map (z.cells[· % z.cells.size]!)) ps.toList = some cells) (W : World) :
    (Instr.buildSlice t n ps).run P W = .ok (.slice (some ⟨W.heap.size, 0, none⟩) n n) { W with heap := W.heap.push (.cells cells e) } := by
  obtain ⟨inf, hi, he⟩ := Option.map_eq_some_iff.1 hz.h
  simp only [Prod.mk.injEq] at he
  have hs : (sizeOf e).run P W = .ok sz W := run_size (by rw [hi]; simp [he.1]) W
  have hb' : ¬ (n * sz > 2 ^ 24) := by omega
  simp [Instr.buildSlice, run_under h.h, hs, hb', hne, zeroValue, run_info hi, he.2.2, hf, newRow, newObj]
  simp [Sem.run]
theorem bsl_ {t e n sz y : Nat} {z : Value} {ps : Array (Nat × Value)} {cells : Array Value} [h : TU P t (.slice e)] [hz : TI P e sz y z]
    (hf : Instr.fill (fun i => some (i * sz, sz)) ((Array.range (n * sz)).map (z.cells[· % z.cells.size]!)) ps.toList = some cells)
    (k' : ∀ b, k (.slice (some ⟨b, 0, none⟩) n n) I ((b, .cells cells e) :: L)) (hb : n * sz ≤ 16777216 := by decide) (hne : n * sz ≠ 0 := by decide) : bsl P t n ps I L k := fun F W hs => by
  rw [run_bsl hb hne hf]
  exact ⟨I, _, .refl I, hs.new _, k' _⟩

/-- A new row that nobody changes. -/
theorem bslf_ {t e n sz y : Nat} {z : Value} {ps : Array (Nat × Value)} {cells : Array Value} [h : TU P t (.slice e)] [hz : TI P e sz y z]
    (hf : Instr.fill (fun i => some (i * sz, sz)) ((Array.range (n * sz)).map (z.cells[· % z.cells.size]!)) ps.toList = some cells)
    (k' : ∀ b J, I.Le J → RdAt J b 0 cells.toList → k (.slice (some ⟨b, 0, none⟩) n n) J L) (hb : n * sz ≤ 16777216 := by decide) (hne : n * sz ≠ 0 := by decide) : bsl P t n ps I L k := fun F W hs => by
  rw [run_bsl hb hne hf]
  have h2 := St.freeze (hs.new (.cells cells e))
  exact ⟨_, L, h2.1, h2.2, k' _ _ h2.1 ⟨cells, e, (0, 0), by simp [Imm.add], by rw [List.drop_zero, List.take_length]⟩⟩

/-- What is not needed any more is let go. -/
theorem wpS.forget {α : Type} {s : Sem α} {K : α → Imm → Own → Prop} (Z : Own) {r : Own} [hf : Foc L Z r] (h : wpS P s I r K) : wpS P s I L K := fun F W hs => by
  have hp : (L ++ F).Perm (r ++ (Z ++ F)) := by
    refine (hf.h.append_right F).trans ?_
    rw [List.append_assoc]
    exact List.perm_append_comm_assoc Z r F
  have h1 := h (Z ++ F) W (hs.perm hp)
  revert h1
  cases s.run P W with
  | halt x W' => exact id
  | ok v W' =>
    rintro ⟨I', L', h1, h2, h3⟩
    exact ⟨I', L', h1, (h2.perm (List.perm_append_comm_assoc L' Z F)).drop, h3⟩
theorem cdT.forget {c : Code} {Q : Exit → Act → Imm → Own → Prop} {X : XT} {a : Act} (Z : Own) {r : Own} [hf : Foc L Z r] (h : cdT P c Q X a I r) : cdT P c Q X a I L := fun F W hs => by
  have hp : (L ++ F).Perm (r ++ (Z ++ F)) := by
    refine (hf.h.append_right F).trans ?_
    rw [List.append_assoc]
    exact List.perm_append_comm_assoc Z r F
  refine wp_mono (h (Z ++ F) W (hs.perm hp)) fun e a W' => ?_
  have key : ∀ {T : Imm → Own → Prop}, (∃ I' L', I.Le I' ∧ St W' I' (L' ++ (Z ++ F)) ∧ T I' L') → ∃ I' L', I.Le I' ∧ St W' I' (L' ++ F) ∧ T I' L' := fun ⟨I', L', h1, h2, h3⟩ =>
    ⟨I', L', h1, (h2.perm (List.perm_append_comm_assoc L' Z F)).drop, h3⟩
  cases e <;> simp only [lift] <;> first | exact key | exact id

/-! ### rows that grow -/
/-- A row of one's own: its cells up to its length. -/
def OSl (e sz : Nat) (v : Value) (n : Nat) (xs : List Value) (L1 : Own) : Prop :=
  xs.length = n * sz ∧ ((v = .slice none 0 0 ∧ n = 0 ∧ L1 = []) ∨
    ∃ g o cap cur, v = .slice (some ⟨g, o, none⟩) n cap ∧ L1 = [(g, .cells cur e (0, 0))] ∧ n ≤ cap ∧ o + cap * sz ≤ cur.size ∧ (cur.toList.drop o).take (n * sz) = xs)
theorem OSl.nil {e sz : Nat} : OSl e sz (.slice none 0 0) 0 [] [] := ⟨by simp, .inl ⟨rfl, rfl, rfl⟩⟩
/-- Cells that can be read now. -/
def Seen (I : Imm) (L : Own) (A : Addr) (vs : List Value) : Prop := ∀ F W, St W I (L ++ F) → ∀ j u, vs[j]? = some u → W.cell? (A.add j) = some u
theorem Seen.own {b : Nat} {c : Array Value} {e : TypeId} {fr : Nat × Nat} [h : HasB L b (.cells c e fr)] : Seen I L ⟨b, 0, none⟩ c.toList := fun F W hs j u hu => by
  rw [Addr.add_plain, cell_of (hs.has h.h)]
  simpa using hu
theorem Seen.imm {b o : Nat} {vs : List Value} (h : RdAt I b o vs) : Seen I L ⟨b, o, none⟩ vs := fun F W hs j u hu => by
  rw [Addr.add_plain]
  exact (h.cel (L := L) rfl hu).h F W hs
theorem len_drop_take {α : Type} {l xs : List α} {o n : Nat} (h : (l.drop o).take n = xs) (hl : o + n ≤ l.length) : xs.length = n := by
  subst h
  simp
  omega
theorem getElem?_drop_take {α : Type} {l xs : List α} {o n : Nat} (h : (l.drop o).take n = xs) {j : Nat} {u : α} (hu : xs[j]? = some u) : l[o + j]? = some u := by
  subst h
  rw [List.getElem?_take] at hu
  split at hu
  · simpa using hu
  · cases hu
theorem drop_take_splice {l xs news : List Value} {o n : Nat} (h : (l.drop o).take n = xs) (hl : o + n + news.length ≤ l.length) : ((splice l (o + n) news).drop o).take (n + news.length) = xs ++ news := by
  subst h
  unfold splice
  rw [List.append_assoc, List.drop_append_of_le_length (by simp; omega), List.drop_take, Nat.add_sub_cancel_left, List.take_append]
  have e1 : ((l.drop o).take n).length = n := by simp; omega
  rw [List.take_of_length_le (by omega), e1, Nat.add_sub_cancel_left, List.take_left' rfl]
theorem app_ {t ty e sz y n m c2 : Nat} {z v : Value} {xs news : List Value} {A : Addr} {L1 r : Own} [h : TU P t (.slice e)] [hz : TI P e sz y z] (hown : OSl e sz v n xs L1) [hf : Foc L L1 r]
    (hnew : Seen I L A news) (hl : news.length = m * sz) (hp : ∀ u ∈ news, plainV u = true)
    (k' : ∀ v' L1', OSl e sz v' (n + m) (xs ++ news) L1' → (m ≠ 0 → v' ≠ .slice none 0 0) → k v' I (L1' ++ r)) (hb : (n + m) * y ≤ 140737488355328 := by omega) (hm : n + m ≤ 9223372036854775807 := by omega) (hzc : z.cells.size = sz := by rfl) :
    blt P .append #[t, t] ty #[v, .slice (some A) m c2] I L k := by
  intro F W hs
  obtain ⟨inf, hi, he⟩ := Option.map_eq_some_iff.1 hz.h
  simp only [Prod.mk.injEq] at he
  have hsz : (sizeOf e).run P W = .ok sz W := run_size (by rw [hi]; simp [he.1]) W
  have hs1 : St W I (L1 ++ (r ++ F)) := by
    rw [← List.append_assoc]
    exact hs.perm (hf.h.append_right F)
  have hnew' := hnew F W hs
  obtain ⟨hxl, hv⟩ := hown
  rcases hv with ⟨rfl, rfl, rfl⟩ | ⟨g, o, cap, cur, rfl, rfl, hnc, hsize, hx⟩
  · have hx0 : xs = [] := List.eq_nil_of_length_eq_zero (by simpa using hxl)
    subst hx0
    by_cases hm0 : m = 0
    · subst hm0
      have hn0 : news = [] := List.eq_nil_of_length_eq_zero (by simpa using hl)
      subst hn0
      have hr : (Builtin.append_ #[t, t] ty #[.slice none 0 0, .slice (some A) 0 c2]).run P W = .ok (.slice none 0 0) W := by
        simp [Builtin.append_, run_under h.h, sizeOf, typeInfo, hi, Builtin.lenOf, Builtin.firstCells, loadCells, loadCellsFrom, Sem.run_bind, program, Sem.run]
      rw [hr]
      exact ⟨I, [] ++ r, .refl I, by simpa using hs1, k' _ [] ⟨by simp, .inl ⟨rfl, rfl, rfl⟩⟩ (fun h => absurd rfl h)⟩
    · have hr := run_append_nil (P := P) W t ty e inf z h.h hi he.2.2 A m c2 news (by rw [he.1]; exact hl) hnew' (by omega) (by omega) (by rw [he.2.1]; have := hb; simp only [Nat.zero_add] at this; omega)
      rw [hr]
      have hw := (hs1.drew (W.drawn + 1)).new (.cells (news.toArray ++ Builtin.zeroCells z.cells (grownCap W m 0 e - m)) e)
      have hge := grownCap_ge W m 0 e
      refine ⟨I, _, .refl I, ?_, k' _ [(W.heap.size, .cells (news.toArray ++ Builtin.zeroCells z.cells (grownCap W m 0 e - m)) e)] ⟨by simpa using hl, .inr ⟨W.heap.size, 0, grownCap W m 0 e, _, by rw [Nat.zero_add], rfl, by omega, ?_, ?_⟩⟩ (fun _ => by simp)⟩
      · exact hw
      · simp only [Array.size_append, List.size_toArray, size_zeroCells, hzc, hl]
        rw [← Nat.add_mul, Nat.zero_add]
        exact Nat.mul_le_mul_right _ (by omega)
      · rw [List.drop_zero, List.nil_append]
        simp only [Nat.zero_add, Array.toList_append, ← hl]
        exact List.take_left
  · have hg : W.heap[g]? = some (.cells cur e (0, 0)) := hs1.own (g, .cells cur e (0, 0)) (by simp)
    have holds : ∀ j u, xs[j]? = some u → W.cell? ((⟨g, o, none⟩ : Addr).add j) = some u := fun j u hu => by
      rw [Addr.add_plain, cell_of hg]
      simpa using getElem?_drop_take hx hu
    by_cases hroom : n + m ≤ cap
    · have hf2 := run_firstCells_some (P := P) W sz m A m c2 news hl hnew'
      have hfit : o + n * sz + news.length ≤ cur.size := by
        rw [hl, Nat.add_assoc, ← Nat.add_mul]
        exact Nat.le_trans (Nat.add_le_add_left (Nat.mul_le_mul_right _ hroom) _) hsize
      obtain ⟨H, g1, g2, g3⟩ := run_storeCells (P := P) news W cur (o + n * sz) 0 hg hp (by simpa using hfit)
      have hr : (Builtin.append_ #[t, t] ty #[.slice (some ⟨g, o, none⟩) n cap, .slice (some A) m c2]).run P W = .ok (.slice (some ⟨g, o, none⟩) (n + m) cap) { W with heap := H } := by
        simp [Builtin.append_, run_underlying h.h, hsz, Builtin.lenOf, hroom, hf2, Addr.add_plain, g1]
      rw [hr]
      have hw := St.set (o' := .cells (splice cur.toList (o + n * sz) news).toArray e (0, 0)) (by simpa using hs1) g2 (by simpa using g3)
      refine ⟨I, _, .refl I, ?_, k' _ [(g, .cells (splice cur.toList (o + n * sz) news).toArray e (0, 0))] ⟨by simp [hxl, hl, Nat.add_mul], .inr ⟨g, o, cap, _, rfl, rfl, hroom, ?_, ?_⟩⟩ (fun _ => by simp)⟩
      · simpa using hw
      · simp [splice]
        omega
      · have := drop_take_splice (news := news) hx (by simpa using hfit)
        rw [hl] at this
        rw [Nat.add_mul]
        exact this
    · have hr := run_append_grow (P := P) W t ty e inf z h.h hi he.2.2 ⟨g, o, none⟩ n cap xs (by rw [he.1]; exact hxl) holds A m c2 news (by rw [he.1]; exact hl) hnew' (by omega) (by omega) (growslice_fits (by omega) (by rw [he.2.1]; exact hb))
      rw [hr]
      have hw := (hs1.drop.drew (W.drawn + 1)).new (.cells (xs.toArray ++ news.toArray ++ Builtin.zeroCells z.cells (grownCap W (n + m) cap e - (n + m))) e)
      have hge := grownCap_ge W (n + m) cap e
      refine ⟨I, _, .refl I, ?_, k' _ [(W.heap.size, .cells (xs.toArray ++ news.toArray ++ Builtin.zeroCells z.cells (grownCap W (n + m) cap e - (n + m))) e)] ⟨by simp [hxl, hl, Nat.add_mul], .inr ⟨W.heap.size, 0, _, _, rfl, rfl, by omega, ?_, ?_⟩⟩ (fun _ => by simp)⟩
      · exact hw
      · simp only [Array.size_append, List.size_toArray, size_zeroCells, hzc, hl, hxl]
        rw [← Nat.add_mul, ← Nat.add_mul, Nat.zero_add]
        exact Nat.mul_le_mul_right _ (by omega)
      · have e1 : (n + m) * sz = (xs ++ news).length := by simp [hxl, hl, Nat.add_mul]
        rw [List.drop_zero, e1]
        simp only [Array.toList_append]
        exact List.take_left
end
end Go.Proofs.YtkclodaplbalfaaDoor.Sl
