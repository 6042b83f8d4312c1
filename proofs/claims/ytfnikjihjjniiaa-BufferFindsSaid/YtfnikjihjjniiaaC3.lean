/-
  From a row's arguments to the reckoning: whatever data come in, they are lists and tuples; a law that is reckoned to return true does so in the model.
  Buffers: their checks, by both; new ones; whether two are the same; sealing.
  Sealing of buffers.
  slices.Clone at entries: an array of the caller's own.
  The place of a key.
-/
import Derived.Test.YtfnikjihjjniiaaE2
import Derived.ProofKit
import Derived.Deep.Slices
import Derived.Lib.SmallJoins
import Derived.ChangeMaps5
import Derived.OpenShut
import Derived.Shelf.Spec.SlicesInsertGrow
namespace Av
open Go Go.ChangeShapes Go.WideShapes Go.ChangeAt Go.RowKit Go.Joins Go.Deep

/-! ### Data that a program can hold -/
mutual
def tyOk : (t : Ty) → t.El → Prop
  | .bool, _ => True
  | .int k, n => inR k n
  | .str, s => ByteArray.size s ≤ 9223372036854775807
  | .sl e, l => let l' : List e.El := l; l'.length ≤ 9223372036854775807 ∧ ∀ x ∈ l', tyOk e x
  | .st fs, x => tyOks fs x
  | .ifc _ _, _ => True
def tyOks : (ts : List Ty) → Ty.Els ts → Prop
  | [], _ => True
  | t :: ts, x => tyOk t x.1 ∧ tyOks ts x.2
end
/-! The same, of a bounded size -/
mutual
def tyB (N : Nat) : (t : Ty) → t.El → Prop
  | .bool, _ => True
  | .int _, _ => True
  | .str, s => ByteArray.size s ≤ N
  | .sl e, l => let l' : List e.El := l; l'.length ≤ N ∧ ∀ x ∈ l', tyB N e x
  | .st fs, x => tyBs N fs x
  | .ifc _ _, _ => True
def tyBs (N : Nat) : (ts : List Ty) → Ty.Els ts → Prop
  | [], _ => True
  | t :: ts, x => tyB N t x.1 ∧ tyBs N ts x.2
end
mutual
theorem tyB_mono {N M : Nat} (h : N ≤ M) : ∀ (t : Ty) (e : t.El), tyB N t e → tyB M t e
  | .bool, _, _ => by simp only [tyB]
  | .int _, _, _ => by simp only [tyB]
  | .str, s, hs => by simp only [tyB] at hs ⊢; omega
  | .sl e, l, hl => by
    simp only [tyB] at hl ⊢
    exact ⟨Nat.le_trans hl.1 h, fun x hx => tyB_mono h e x (hl.2 x hx)⟩
  | .st fs, x, hx => by
    simp only [tyB] at hx ⊢
    exact tyBs_mono h fs x hx
  | .ifc _ _, _, _ => by simp only [tyB]
theorem tyBs_mono {N M : Nat} (h : N ≤ M) : ∀ (ts : List Ty) (e : Ty.Els ts), tyBs N ts e → tyBs M ts e
  | [], _, _ => by simp only [tyBs]
  | t :: ts, x, hx => by
    simp only [tyBs] at hx ⊢
    exact ⟨tyB_mono h t x.1 hx.1, tyBs_mono h ts x.2 hx.2⟩
end
/-- A measure of data. -/
structure Meas {H : Type} (m : DataW H → Nat) : Prop where
  str : ∀ b, b.length ≤ m (.lit (.string b))
  sl : ∀ es sp, es.length ≤ m (.slice es sp)
  slE : ∀ es sp d, d ∈ es → m d ≤ m (.slice es sp)
  agg : ∀ ps d, d ∈ ps → m d ≤ m (.agg ps)
def tyO {H : Type} (D : DataW H) (t : Ty) (e : t.El) : Prop := tyOk t e ∧ ∀ m : DataW H → Nat, Meas m → tyB (m D) t e
def tyOs {H : Type} (D : DataW H) (ts : List Ty) (e : Ty.Els ts) : Prop := tyOks ts e ∧ ∀ m : DataW H → Nat, Meas m → tyBs (m D) ts e
theorem tyOs_cons {H : Type} {D D1 : DataW H} {t : Ty} {ts : List Ty} {e : t.El} {es : Ty.Els ts} (h : ∀ m, Meas m → m D1 ≤ m D) (h1 : tyO D1 t e) (h2 : tyOs D ts es) : tyOs D (t :: ts) (e, es) :=
  ⟨by simp only [tyOks]; exact ⟨h1.1, h2.1⟩, fun m hm => by simp only [tyBs]; exact ⟨tyB_mono (h m hm) t e (h1.2 m hm), h2.2 m hm⟩⟩
theorem tyOs_nil {H : Type} {D : DataW H} : tyOs D [] () := ⟨by simp only [tyOks], fun m hm => by simp only [tyBs]⟩
def avT : (t : Ty) → t.El → AV
  | .bool, b => .bool b
  | .int k, n => .int k n
  | .str, s => .str s
  | .sl e, l => .lst e l
  | .st fs, x => .agg (flats fs x)
  | .ifc Ts ts, x => altV ts Ts x
def avTs : (ts : List Ty) → Ty.Els ts → List AV
  | [], _ => []
  | t :: ts, x => avT t x.1 :: avTs ts x.2

/-! ### Which type of the program is which type of data -/
def chkGs (P : Program) (chk : TypeId → Ty → Bool) : List Field → List Ty → Nat → Bool
  | [], [], _ => true
  | f :: fs, t :: ts, off => Nat.beq f.offset off && (chk f.type t && chkGs P chk fs ts (off + t.size))
  | _, _, _ => false
def chkAr (chk : Ty → Bool) (z : Nat) : List Ty → Bool
  | [] => true
  | t :: ts => (Nat.beq t.size z && chk t) && chkAr chk z ts
def chkG (P : Program) : Nat → TypeId → Ty → Bool
  | 0, _, _ => false
  | d + 1, T, t => Nat.beq (P.cellsOf T) t.size && (Nat.ble 1 t.size && match t, P.underlying T with
    | .bool, some .bool => true
    | .int k, some (.int k') => decide (k = k')
    | .str, some .string => true
    | .sl e, some (.slice E) => chkG P d E e
    | .st ts, some (.struct gs) => chkGs P (chkG P d) gs.toList ts 0
    | .st ts, some (.array n E) => Nat.beq ts.length n && chkAr (chkG P d E) (P.cellsOf E) ts
    | _, _ => false)
def chkAll (P : Program) : List TypeId → List Ty → Bool
  | [], [] => true
  | T :: Ts, t :: ts => chkG P 50 T t && chkAll P Ts ts
  | _, _ => false

theorem wf_inR {k : IntKind} {n : Int} (h : (Lit.int k n).wf = true) : inR k n := by
  simp only [Lit.wf, Bool.and_eq_true, decide_eq_true_eq] at h
  cases k <;> simp [IntKind.min, IntKind.max, IntKind.bits, IntKind.signed] at h <;> simp only [inR] <;> omega
theorem exists_list {α : Type} {p : Nat → α → Prop} : ∀ (n : Nat), (∀ i, i < n → ∃ x, p i x) → ∃ l : List α, l.length = n ∧ ∀ i x, l[i]? = some x → p i x
  | 0, _ => ⟨[], rfl, fun i x h => by simp at h⟩
  | n + 1, h => by
    obtain ⟨l, hl, hp⟩ := exists_list n (fun i hi => h i (by omega))
    obtain ⟨x, hx⟩ := h n (by omega)
    refine ⟨l ++ [x], by simp [hl], fun i y hy => ?_⟩
    by_cases hi : i < l.length
    · rw [List.getElem?_append_left hi] at hy; exact hp i y hy
    · rw [List.getElem?_append_right (by omega)] at hy
      have h0 : i - l.length = 0 := by
        have := (List.getElem?_eq_some_iff.1 hy).1
        simp at this; omega
      rw [h0] at hy
      simp at hy
      subst hy
      rw [show i = n by omega]
      exact hx
theorem spot_none' {w : World} {a : Addr} {v : Value} (h : w.cell? a = some v) : a.spot = none := by
  unfold World.cell? at h
  split at h
  · cases hs : a.spot with
    | none => rfl
    | some s => simp [hs] at h
  · cases h
theorem add_at' {a : Addr} (h : a.spot = none) (k : Nat) : a.add k = ⟨a.block, a.off + k, none⟩ := by
  obtain ⟨b, o, s⟩ := a
  simp only at h
  subst h
  unfold Addr.add
  split <;> simp_all

section
variable {H : Type} {enc : TypeId × Value → H} {P : Program} {w : World} {base : Nat} {spare : Nat → Bool} {held : Bool}
theorem open_fs {s : St} {chk : TypeId → Ty → Bool} {n : Nat} {cs : List Value} {D : DataW H}
    (ih : ∀ (t : Ty) (T : TypeId) (cs : List Value) (x : DataW H × List MemPlace), chk T t = true → DataW.trod enc P w base spare held n T cs = some x → ∃ e : t.El, RT s t e (fun j => cs[j]?) ∧ tyO x.1 t e) :
    ∀ (gs : List Field) (ts : List Ty) (off : Nat), chkGs P chk gs ts off = true → (∀ f ∈ gs, ∃ y, DataW.trod enc P w base spare held n f.type ((cs.drop f.offset).take (P.cellsOf f.type)) = some y ∧ ∀ m, Meas m → m y.1 ≤ m D) → ∃ e : Ty.Els ts, RTs s ts e (fun j => cs[off + j]?) ∧ tyOs D ts e
  | [], [], _, _, _ => ⟨(), by simp only [RTs], tyOs_nil⟩
  | [], _ :: _, _, h, _ => by simp [chkGs] at h
  | _ :: _, [], _, h, _ => by simp [chkGs] at h
  | f :: gs, t :: ts, off, h, hf => by
    simp only [chkGs, Bool.and_eq_true] at h
    obtain ⟨h1, h2, h3⟩ := h
    obtain ⟨y, hy, hym⟩ := hf f (by simp)
    obtain ⟨e, he, hok⟩ := ih t f.type _ y h2 hy
    obtain ⟨es, hes, hoks⟩ := open_fs ih gs ts (off + t.size) h3 (fun g hg => hf g (by simp [hg]))
    have h1 := Nat.eq_of_beq_eq_true h1
    refine ⟨(e, es), ?_, ?_⟩
    · simp only [RTs]
      refine ⟨RT_mono (Step.refl s) t e _ _ (fun j v hv => ?_) he, ?_⟩
      · rw [List.getElem?_take] at hv
        split at hv
        · rw [List.getElem?_drop, h1] at hv; exact hv
        · cases hv
      · simp only [← Nat.add_assoc]
        exact hes
    · exact tyOs_cons hym hok hoks
theorem open_ar {s : St} {chk : Ty → Bool} {n z : Nat} {E : TypeId} {cs : List Value} {D : DataW H}
    (ih : ∀ (t : Ty) (cs : List Value) (x : DataW H × List MemPlace), chk t = true → DataW.trod enc P w base spare held n E cs = some x → ∃ e : t.El, RT s t e (fun j => cs[j]?) ∧ tyO x.1 t e) :
    ∀ (ts : List Ty) (k : Nat), chkAr chk z ts = true → (∀ i, i < ts.length → ∃ y, DataW.trod enc P w base spare held n E ((cs.drop ((k + i) * z)).take z) = some y ∧ ∀ m, Meas m → m y.1 ≤ m D) → ∃ e : Ty.Els ts, RTs s ts e (fun j => cs[k * z + j]?) ∧ tyOs D ts e
  | [], _, _, _ => ⟨(), by simp only [RTs], tyOs_nil⟩
  | t :: ts, k, h, hf => by
    simp only [chkAr, Bool.and_eq_true] at h
    obtain ⟨⟨h1, h2⟩, h3⟩ := h
    obtain ⟨y, hy, hym⟩ := hf 0 (by simp)
    obtain ⟨e, he, hok⟩ := ih t _ y h2 hy
    obtain ⟨es, hes, hoks⟩ := open_ar ih ts (k + 1) h3 (fun i hi => by
      have := hf (i + 1) (by simpa using hi)
      rwa [show k + (i + 1) = k + 1 + i by omega] at this)
    have h1 := Nat.eq_of_beq_eq_true h1
    refine ⟨(e, es), ?_, ?_⟩
    · simp only [RTs]
      refine ⟨RT_mono (Step.refl s) t e _ _ (fun j v hv => ?_) he, ?_⟩
      · rw [List.getElem?_take] at hv
        split at hv
        · rw [List.getElem?_drop, Nat.add_zero] at hv; exact hv
        · cases hv
      · rw [h1]
        simp only [← Nat.add_assoc]
        rw [Nat.add_mul, Nat.one_mul] at hes
        exact hes
    · exact tyOs_cons hym hok hoks
theorem open_ty {s : St} (hw : s.w = w) (hF : ∀ b, ¬ Own s b) : ∀ (d : Nat) (t : Ty) (T : TypeId) (fuel : Nat) (cs : List Value) (x : DataW H × List MemPlace), chkG P d T t = true → DataW.trod enc P w base spare held fuel T cs = some x → ∃ e : t.El, RT s t e (fun j => cs[j]?) ∧ tyO x.1 t e
  | 0, t, T, fuel, cs, x, h, _ => by simp [chkG] at h
  | d + 1, t, T, fuel, cs, x, h, hx => by
    simp only [chkG, Bool.and_eq_true] at h
    obtain ⟨hz, hq, h⟩ := h
    split at h
    · rename_i hu
      obtain ⟨b, rfl, _⟩ := DataW.trod_bool hu hx
      exact ⟨b, by simp [RT], by simp only [tyOk], fun m hm => by simp only [tyB]⟩
    · rename_i k k' hu
      have := of_decide_eq_true h
      subst this
      obtain ⟨b, rfl, _, hwf⟩ := DataW.trod_int hu hx
      exact ⟨b, by simp [RT], by simp only [tyOk]; exact wf_inR hwf, fun m hm => by simp only [tyB]⟩
    · rename_i hu
      obtain ⟨b, rfl, rfl, hsz⟩ := DataW.trod_string hu hx
      exact ⟨b, by simp [RT], by simp only [tyOk]; exact hsz, fun m hm => by
        have h1 := hm.str b.data.toList
        simp only [tyB]
        have h2 : b.data.toList.length = b.size := rfl
        omega⟩
    · rename_i e E hu
      have hcE : P.cellsOf E = e.size ∧ 1 ≤ e.size := by
        cases d with
        | zero => simp [chkG] at h
        | succ d =>
          simp only [chkG, Bool.and_eq_true] at h
          exact ⟨Nat.eq_of_beq_eq_true h.1, Nat.le_of_ble_eq_true h.2.1⟩
      rcases open_slice hu hx with ⟨rfl, _⟩ | ⟨a, len, cap, m, n, D, Pl, rfl, hb, hl, hm, hmm, rfl, hel⟩
      · refine ⟨[], ?_, ?_, fun m hm => ?_⟩
        · simp only [RT]
          exact ⟨none, 0, rfl, Nat.le_refl _, fun h => absurd rfl h⟩
        · simp only [tyOk]
          exact ⟨by show 0 ≤ _; omega, fun x hx => by cases hx⟩
        · simp only [tyB]
          exact ⟨Nat.zero_le _, fun x hx => by cases hx⟩
      · have hlm : len ≤ m := by rw [hmm]; split <;> omega
        have hsp : 0 < len → a.spot = none := by
          intro h0
          obtain ⟨cs', h1, h2⟩ := hel 0 (by omega)
          rw [hcE.1] at h1
          obtain ⟨_, hlen, hc⟩ := World.cells?_some h1
          have hcell0 := hc 0 (by omega)
          rw [Deep.add_add, Nat.zero_mul, show a.add (0 + 0) = a from by simp [Addr.add]] at hcell0
          exact spot_none' (hcell0.trans (List.getElem?_eq_getElem (by omega)))
        have hall : ∀ i, i < len → ∃ y : e.El, (a.spot = none ∧ a.block < w.heap.size ∧ RT s e y (fun j => w.cell? ⟨a.block, a.off + i * e.size + j, none⟩)) ∧ tyO (D i) e y := by
          intro i hi
          obtain ⟨cs', h1, h2⟩ := hel i (by omega)
          obtain ⟨y, hy, hok⟩ := open_ty hw hF d e E n cs' _ h h2
          rw [hcE.1] at h1
          obtain ⟨_, hlen, hc⟩ := World.cells?_some h1
          have hsp := hsp (by omega)
          have hcell0 := hc 0 (by omega)
          rw [Deep.add_add] at hcell0
          have h0 : ∃ v, w.cell? (a.add (i * e.size + 0)) = some v := ⟨_, hcell0.trans (List.getElem?_eq_getElem (by omega))⟩
          obtain ⟨v0, h0⟩ := h0
          have hlt : a.block < w.heap.size := by
            have := World.block_lt_of_cell? w _ h0
            rw [add_at' hsp] at this
            exact this
          refine ⟨y, ⟨hsp, hlt, RT_mono (Step.refl s) e y _ _ (fun j v hv => ?_) hy⟩, hok⟩
          have hj : j < e.size := by have := (List.getElem?_eq_some_iff.1 hv).1; omega
          have h3 := hc j hj
          rw [Deep.add_add, add_at' hsp, ← Nat.add_assoc] at h3
          rw [h3]; exact hv
        obtain ⟨l, hll, hlp⟩ := exists_list len hall
        refine ⟨l, ?_, ?_, fun m' hm' => ?_⟩
        · simp only [RT]
          refine ⟨some a, cap, by rw [hll]; rfl, by rw [hll]; exact hl, fun hne => ?_⟩
          have hpos : 0 < l.length := List.length_pos_iff.2 hne
          obtain ⟨⟨hsp, hlt, _⟩, _⟩ := hlp 0 _ (List.getElem?_eq_getElem hpos)
          refine ⟨a.block, a.off, ?_, by rw [hw]; exact hlt, hF _, fun i x hi => ?_⟩
          · obtain ⟨b, o, sp⟩ := a
            simp only at hsp
            subst hsp
            rfl
          · rw [hw]; exact (hlp i x hi).1.2.2
        · simp only [tyOk]
          refine ⟨?_, fun x hx => ?_⟩
          · show l.length ≤ _
            rw [hll]
            have : cap ≤ 9223372036854775807 := hm
            omega
          · obtain ⟨i, hi⟩ := List.mem_iff_getElem?.1 hx
            exact (hlp i x hi).2.1
        · simp only [tyB]
          refine ⟨?_, fun x hx => ?_⟩
          · have := hm'.sl ((List.range len).map D) ((List.range (m - len)).map fun j => D (len + j))
            rw [List.length_map, List.length_range] at this
            show l.length ≤ _
            omega
          · obtain ⟨i, hi⟩ := List.mem_iff_getElem?.1 hx
            have hil : i < len := by have := (List.getElem?_eq_some_iff.1 hi).1; omega
            exact tyB_mono (hm'.slE _ _ (D i) (List.mem_map.2 ⟨i, List.mem_range.2 hil, rfl⟩)) e x ((hlp i x hi).2.2 m' hm')
    · rename_i ts gs hu
      obtain ⟨xs, n, rfl, rfl, hlen, hxl, hf⟩ := DataW.trod_struct hu hx
      obtain ⟨e, he, hok⟩ := open_fs (s := s) (cs := cs) (n := n) (fun t T cs x hc hx => open_ty hw hF d t T n cs x hc hx) gs.toList ts 0 h (fun f hfm => by
        obtain ⟨i, hi⟩ := List.mem_iff_getElem?.1 hfm
        rw [Array.getElem?_toList] at hi
        have h1 := hf i f hi
        have hlt : i < xs.length := by rw [hxl]; exact (Array.getElem?_eq_some_iff.1 hi).1
        rw [List.getElem?_eq_getElem hlt] at h1
        exact ⟨_, h1, fun m hm => hm.agg _ _ (List.mem_map.2 ⟨_, List.getElem_mem hlt, rfl⟩)⟩)
      refine ⟨e, ?_, by simp only [tyOk]; exact hok.1, fun m hm => by simp only [tyB]; exact hok.2 m hm⟩
      simp only [RT]
      simpa only [Nat.zero_add] using he
    · rename_i ts n E hu
      rw [Bool.and_eq_true] at h
      obtain ⟨hn, h⟩ := h
      have hn := Nat.eq_of_beq_eq_true hn
      obtain ⟨xs, m, rfl, rfl, hlen, hxl, hf⟩ := DataW.trod_array hu hx
      obtain ⟨e, he, hok⟩ := open_ar (s := s) (cs := cs) (n := m) (E := E) (fun t cs x hc hx => open_ty hw hF d t E m cs x hc hx) ts 0 h (fun i hi => by
        have h1 := hf i (by omega)
        have hlt : i < xs.length := by omega
        rw [List.getElem?_eq_getElem hlt] at h1
        rw [Nat.zero_add]
        exact ⟨_, h1, fun m hm => hm.agg _ _ (List.mem_map.2 ⟨_, List.getElem_mem hlt, rfl⟩)⟩)
      refine ⟨e, ?_, by simp only [tyOk]; exact hok.1, fun m hm => by simp only [tyB]; exact hok.2 m hm⟩
      simp only [RT]
      simpa only [Nat.zero_mul, Nat.zero_add] using he
    · cases h
theorem okWide_arr {P : Program} {w : World} {r : Reach} {base n : Nat} {T E : TypeId} {v : Value} (ht : P.underlying T = some (.array n E)) (h : Value.okWide P w r base T v) : ∃ cs, v = .agg cs ∧ cs.size = P.cellsOf T := by
  simp only [Value.okWide, ht] at h
  obtain ⟨cs, h1, h2, _⟩ := h
  exact ⟨cs, h1, h2⟩
theorem open_val {s : St} (hw : s.w = w) (hF : ∀ b, ¬ Own s b) {d : Nat} {t : Ty} {T : TypeId} {r : Reach} {b0 : Nat} {v : Value} {D : DataW H} {p : List MemPlace} (hc : chkG P d T t = true) (hv : Value.okWide P w r b0 T v) (h : DataW.Trod enc P w base spare held T v D p) : ∃ e : t.El, R s (avT t e) v ∧ tyO D t e := by
  obtain ⟨fuel, hx⟩ := h
  obtain ⟨e, he, hok⟩ := open_ty hw hF d t T fuel _ _ hc hx
  refine ⟨e, ?_, hok⟩
  cases d with
  | zero => simp [chkG] at hc
  | succ d =>
    simp only [chkG, Bool.and_eq_true] at hc
    obtain ⟨hz, hq, hc⟩ := hc
    split at hc
    · rename_i hu
      obtain ⟨b, rfl, _⟩ := open_bool hu hv ⟨fuel, hx⟩
      simp only [RT, Value.cells] at he
      simp only [avT, R]
      simpa using he
    · rename_i k k' hu
      have := of_decide_eq_true hc
      subst this
      obtain ⟨b, rfl, _⟩ := open_int hu hv ⟨fuel, hx⟩
      simp only [RT, Value.cells] at he
      simp only [avT, R]
      simpa using he
    · rename_i hu
      obtain ⟨b, rfl⟩ := okWide_string hu hv
      simp only [RT, Value.cells] at he
      simp only [avT, R]
      simpa using he
    · rename_i e' E hu
      obtain ⟨a, len, cap, rfl⟩ := okWide_slice hu hv
      simp only [RT, Value.cells] at he
      obtain ⟨a', cap', h0, hl, hr⟩ := he
      simp only [avT, R]
      refine ⟨a', cap', ?_, hl, hr⟩
      simpa using h0
    · rename_i ts gs hu
      obtain ⟨cs, rfl, hsz⟩ := okWide_struct hu hv
      obtain ⟨_, _, _, _, hlen, _, _⟩ := DataW.trod_struct hu hx
      simp only [RT] at he
      have hrc := RTs_RC ts e _ he
      obtain ⟨vs, h1, h2, h3⟩ := RC_vals hrc
      have hts : cs.size = Ty.sizes ts := by
        have := Nat.eq_of_beq_eq_true hz
        rw [hsz, this]
        simp only [Ty.size]
      have hvs : vs.length = cs.size := by
        rw [RL_vals h1, hts]; exact flats_length ts e
      have : vs = cs.toList := by
        apply List.ext_getElem?
        intro j
        by_cases hj : j < vs.length
        · have := h3 j _ (List.getElem?_eq_getElem hj)
          rw [List.getElem?_eq_getElem hj]
          exact this.symm
        · rw [List.getElem?_eq_none (by omega), List.getElem?_eq_none (by simp; omega)]
      subst this
      simp only [avT, R]
      exact ⟨cs.toList, by simp, h1, h2⟩
    · rename_i ts n E hu
      obtain ⟨cs, rfl, hsz⟩ := okWide_arr hu hv
      obtain ⟨_, _, _, _, hlen, _, _⟩ := DataW.trod_array hu hx
      simp only [RT] at he
      have hrc := RTs_RC ts e _ he
      obtain ⟨vs, h1, h2, h3⟩ := RC_vals hrc
      have hts : cs.size = Ty.sizes ts := by
        have := Nat.eq_of_beq_eq_true hz
        rw [hsz, this]
        simp only [Ty.size]
      have hvs : vs.length = cs.size := by
        rw [RL_vals h1, hts]; exact flats_length ts e
      have : vs = cs.toList := by
        apply List.ext_getElem?
        intro j
        by_cases hj : j < vs.length
        · have := h3 j _ (List.getElem?_eq_getElem hj)
          rw [List.getElem?_eq_getElem hj]
          exact this.symm
        · rw [List.getElem?_eq_none (by omega), List.getElem?_eq_none (by simp; omega)]
      subst this
      simp only [avT, R]
      exact ⟨cs.toList, by simp, h1, h2⟩
    · cases hc
theorem open_all {s : St} (hw : s.w = w) (hF : ∀ b, ¬ Own s b) {r : Reach} {b0 : Nat} : ∀ (Ts : List TypeId) (ts : List Ty) (vs : List Value) (ds : List (DataW H)) (ps : List MemPlace), chkAll P Ts ts = true → (∀ (j : Nat) T v, Ts[j]? = some T → vs[j]? = some v → Value.okWide P w r b0 T v) →
    DataW.TrodAll enc P w base spare held Ts vs ds ps → ∃ es : Ty.Els ts, RL s (avTs ts es) vs ∧ tyOks ts es ∧ ∀ (m : DataW H → Nat) (N : Nat), Meas m → (∀ d ∈ ds, m d ≤ N) → tyBs N ts es
  | [], [], vs, ds, ps, _, _, h => by
    obtain ⟨rfl, rfl, rfl⟩ := trodAll_nil h
    exact ⟨(), by simp only [avTs, RL], by simp only [tyOks], fun m N hm hd => by simp only [tyBs]⟩
  | [], _ :: _, _, _, _, h, _, _ => by simp [chkAll] at h
  | _ :: _, [], _, _, _, h, _, _ => by simp [chkAll] at h
  | T :: Ts, t :: ts, vs, ds, ps, hc, hv, h => by
    simp only [chkAll, Bool.and_eq_true] at hc
    obtain ⟨v, vs', D, ds', p, q, rfl, rfl, rfl, h1, h2⟩ := trodAll_cons h
    obtain ⟨e, he, hok⟩ := open_val hw hF hc.1 (hv 0 T v rfl rfl) h1
    obtain ⟨es, hes, hoks, hbs⟩ := open_all hw hF Ts ts vs' ds' q hc.2 (fun j T v h1 h2 => hv (j + 1) T v (by simpa using h1) (by simpa using h2)) h2
    exact ⟨(e, es), by simp only [avTs, RL]; exact ⟨v, vs', rfl, he, hes⟩, by simp only [tyOks]; exact ⟨hok.1, hoks⟩, fun m N hm hd => by simp only [tyBs]; exact ⟨tyB_mono (hd D (by simp)) t e (hok.2 m hm), hbs m N hm (fun d h => hd d (by simp [h]))⟩⟩

/-- A law that is reckoned to return true returns true, and leaves what there was. -/
theorem law_calls {C : Cx} (hm : P.follows .mixedOrders = true) (hT : TbOk P C.tb) (hD : SpecsOk P C.specs) {call : CallA} (hcall : CallOk P call) {g : FuncId} {fn : Func} (hf : FnOk P g fn) {ts : List Ty}
    (walk : ∀ es : Ty.Els ts, tyOks ts es → bodyA C call fn (avTs ts es) [] (fun v _ => v = .bool true))
    {Ts : List TypeId} (hc : chkAll P Ts ts = true) {r : Reach} {b0 : Nat} {args : Array Value} {ds : List (DataW H)} {ps : List MemPlace}
    (hv : ∀ (j : Nat) T v, Ts[j]? = some T → args.toList[j]? = some v → Value.okWide P w r b0 T v) (h : DataW.TrodAll enc P w base spare held Ts args.toList ds ps) :
    Calls P g args w fun e w' => e = .returned (.bool true) ∧ Below w.heap.size w w' := by
  let s : St := ⟨fun _ => .bool false, [], w, fun _ => False⟩
  have hI : ∀ b, ¬ OwnI s b := by
    rintro b ⟨id, o, h1, _⟩
    have h1 : ([] : List AObj)[id]? = some o := h1
    simp at h1
  have hF : ∀ b, ¬ Own s b := by
    rintro b (h1 | h1)
    · exact h1
    · exact hI b h1
  have hok : Ok s := ⟨fun id o h => by have h : ([] : List AObj)[id]? = some o := h; simp at h, fun i j o p b h => by have h : ([] : List AObj)[i]? = some o := h; simp at h, fun b h => h.elim, fun b h => absurd h (hI b)⟩
  obtain ⟨es, hes, hoks, hbs⟩ := open_all (s := s) rfl hF Ts ts args.toList ds ps hc hv h
  refine Calls.mono (bodyA_ok hm hT hD hcall hf (s := s) (walk es hoks) hok hes) ?_
  rintro e w' ⟨s', v, cr, rfl, rfl, hst, _, hR, rfl⟩
  simp only [R] at hR
  subst hR
  exact ⟨rfl, hst.os, hst.tape, hst.output, hst.size, fun b hb => (hst.keep b hb (hI b)).2⟩
end
end Av
namespace Go.Proofs.Ytfnikjihjjniiaa
open Av Bk

def chB (m : Int) (l : List entT.El) : Int × Int := if m < 1 ∨ 16 < m then (0, 7) else if m < (l.length : Int) then (0, 3) else clGo none 0 l
def spChB : DSpec
  | [.agg [.int .i64 m, .lst (.st [.str, .str, .bool, .int .i64]) l]] => some (True, .tup [.int .i64 (chB m l).1, .int .i64 (chB m l).2])
  | _ => none
set_option maxRecDepth 100000 in
theorem fnOk_bChk : FnOk Try.prog 24 Try.f24 := ⟨by rfl, by kernel_rfl, by
  show okCode _ _ = true ∧ drawsOk _ = true
  exact ⟨by kernel_rfl, by kernel_rfl⟩⟩
noncomputable def cx20 : Cx := ⟨tb, [], [(36, spCheck)]⟩
theorem specs20 : SpecsOk Try.prog cx20.specs := .cons entCheck_ok .nil
set_option maxRecDepth 100000 in
set_option maxHeartbeats 2000000 in
theorem bChk_ok : SpecOk Try.prog 24 spChB := by
  refine spec_body (C := cx20) mixed tbOk specs20 (callN_ok (C := cx20) mixed tbOk specs20 FnsOk.nil 0) fnOk_bChk ?_
  intro ys p r h hp
  unfold spChB at h
  split at h
  · rename_i m l
    cases h
    conv => whnf
    repeat' first
      | ((first | refine auT ?_ | refine auF ?_ | with_reducible first | refine auKt ?_ | refine auKf ?_ | refine auNt ?_ | refine auNf ?_ | refine auEt ?_ | refine auEf ?_); conv => whnf)
      | ((with_reducible first | refine br_dec (fun h => ?_) (fun h => ?_) | refine br_ndec (fun h => ?_) (fun h => ?_) | refine br_ne (fun h => ?_) (fun h => ?_) | refine br_eq (fun h => ?_) (fun h => ?_)) <;> first | (exfalso; omega) | conv => whnf)
      | (refine br_intro (fun h => ?_) (fun h => ?_) <;> conv => whnf)
      | ((first | refine auNd ?_ | refine idx_nat (by omega) (fun x hx => ?_) | refine frz_auto ?_ | refine draw_plain ?_ | refine auIx (fun x hx => ?_)); conv => whnf)
    · rw [chB, if_pos (.inl h)]
    · rw [chB, if_pos (.inr h)]
    · rw [chB, if_neg (by omega), if_pos (by omega)]
    · refine loop_inv [] [26] (fun vs h => ∃ i : Nat, vs = [.int .i64 (i : Int)] ∧ h = [.cells 24 [.int .i64 m, .lst entT l]] ∧ i ≤ l.length ∧ chB m l = clGo (pvAt l i) (i : Int) (l.drop i)) (fun vs _ => match vs with | [.int _ k] => l.length - k.toNat | _ => 0) ?_
      refine ⟨⟨0, rfl, rfl, by omega, by rw [chB, if_neg (by omega), if_neg (by omega)]; rfl⟩, ?_⟩
      rintro vs h' - ⟨i, rfl, rfl, hi, hc⟩
      conv => whnf
      repeat' first
        | ((first | refine auT ?_ | refine auF ?_ | with_reducible first | refine auKt ?_ | refine auKf ?_ | refine auNt ?_ | refine auNf ?_ | refine auEt ?_ | refine auEf ?_); conv => whnf)
        | ((with_reducible first | refine br_dec (fun h => ?_) (fun h => ?_) | refine br_ndec (fun h => ?_) (fun h => ?_) | refine br_ne (fun h => ?_) (fun h => ?_) | refine br_eq (fun h => ?_) (fun h => ?_)) <;> first | (exfalso; omega) | conv => whnf)
        | (refine br_intro (fun h => ?_) (fun h => ?_) <;> conv => whnf)
        | ((first | refine auNd ?_ | refine idx_nat (by omega) (fun x hx => ?_) | refine frz_auto ?_ | refine draw_plain ?_ | refine auIx (fun x hx => ?_)); conv => whnf)
      · rw [cg_err hc hx h]; rfl
      · rename_i y hy _ _
        rw [show ((i : Int) - 1).toNat = i - 1 by omega] at hx
        rw [cg_form hc hy (by assumption) (by omega) hx (bnt h)]
      · rename_i y hy _ _
        rw [show ((i : Int) - 1).toNat = i - 1 by omega] at hx
        refine back_intro (by conv => whnf) rfl ⟨i + 1, rfl, rfl, by omega, cg_next hc hy (by assumption) (.inr ⟨x, hx, bnf h⟩)⟩ ?_
        show l.length - ((i : Int) + 1).toNat < l.length - (i : Int).toNat
        omega
      · refine back_intro (by conv => whnf) rfl ⟨i + 1, rfl, rfl, by omega, cg_next hc hx (by assumption) (.inl (by omega))⟩ ?_
        show l.length - ((i : Int) + 1).toNat < l.length - (i : Int).toNat
        omega
      · rw [cg_end hc (by omega)]
  · cases h
set_option maxRecDepth 100000 in
theorem fnOk_rChk : FnOk Try.prog 25 Try.f25 := ⟨by rfl, by kernel_rfl, by
  show okCode _ _ = true ∧ drawsOk _ = true
  exact ⟨by kernel_rfl, by kernel_rfl⟩⟩
noncomputable def cx21 : Cx := ⟨tb, [], [(37, spCheck)]⟩
theorem specs21 : SpecsOk Try.prog cx21.specs := .cons refCheck_ok .nil
set_option maxRecDepth 100000 in
set_option maxHeartbeats 2000000 in
theorem rChk_ok : SpecOk Try.prog 25 spChB := by
  refine spec_body (C := cx21) mixed tbOk specs21 (callN_ok (C := cx21) mixed tbOk specs21 FnsOk.nil 0) fnOk_rChk ?_
  intro ys p r h hp
  unfold spChB at h
  split at h
  · rename_i m l
    cases h
    conv => whnf
    repeat' first
      | ((first | refine auT ?_ | refine auF ?_ | with_reducible first | refine auKt ?_ | refine auKf ?_ | refine auNt ?_ | refine auNf ?_ | refine auEt ?_ | refine auEf ?_); conv => whnf)
      | ((with_reducible first | refine br_dec (fun h => ?_) (fun h => ?_) | refine br_ndec (fun h => ?_) (fun h => ?_) | refine br_ne (fun h => ?_) (fun h => ?_) | refine br_eq (fun h => ?_) (fun h => ?_)) <;> first | (exfalso; omega) | conv => whnf)
      | (refine br_intro (fun h => ?_) (fun h => ?_) <;> conv => whnf)
      | ((first | refine auNd ?_ | refine idx_nat (by omega) (fun x hx => ?_) | refine frz_auto ?_ | refine draw_plain ?_ | refine auIx (fun x hx => ?_)); conv => whnf)
    · rw [chB, if_pos (.inl h)]
    · rw [chB, if_pos (.inr h)]
    · rw [chB, if_neg (by omega), if_pos (by omega)]
    · refine loop_inv [] [4] (fun vs h => ∃ i : Nat, vs = [.int .i64 (i : Int)] ∧ h = [.cells 24 [.int .i64 m, .lst entT l]] ∧ i ≤ l.length ∧ chB m l = clGo (pvAt l i) (i : Int) (l.drop i)) (fun vs _ => match vs with | [.int _ k] => l.length - k.toNat | _ => 0) ?_
      refine ⟨⟨0, rfl, rfl, by omega, by rw [chB, if_neg (by omega), if_neg (by omega)]; rfl⟩, ?_⟩
      rintro vs h' - ⟨i, rfl, rfl, hi, hc⟩
      conv => whnf
      repeat' first
        | ((first | refine auT ?_ | refine auF ?_ | with_reducible first | refine auKt ?_ | refine auKf ?_ | refine auNt ?_ | refine auNf ?_ | refine auEt ?_ | refine auEf ?_); conv => whnf)
        | ((with_reducible first | refine br_dec (fun h => ?_) (fun h => ?_) | refine br_ndec (fun h => ?_) (fun h => ?_) | refine br_ne (fun h => ?_) (fun h => ?_) | refine br_eq (fun h => ?_) (fun h => ?_)) <;> first | (exfalso; omega) | conv => whnf)
        | (refine br_intro (fun h => ?_) (fun h => ?_) <;> conv => whnf)
        | ((first | refine auNd ?_ | refine idx_nat (by omega) (fun x hx => ?_) | refine frz_auto ?_ | refine draw_plain ?_ | refine auIx (fun x hx => ?_)); conv => whnf)
      · rw [cg_err hc hx h]; rfl
      · rename_i y hy e0 _ z hz
        obtain rfl := Option.some.inj (hy.symm.trans hz)
        rw [show ((i : Int) - 1).toNat = i - 1 by omega] at hx
        rw [cg_form hc hy e0 (by omega) hx (bnt h)]
      · rename_i y hy e0 _ z hz
        obtain rfl := Option.some.inj (hy.symm.trans hz)
        rw [show ((i : Int) - 1).toNat = i - 1 by omega] at hx
        refine back_intro (by conv => whnf) rfl ⟨i + 1, rfl, rfl, by omega, cg_next hc hy e0 (.inr ⟨x, hx, bnf h⟩)⟩ ?_
        show l.length - ((i : Int) + 1).toNat < l.length - (i : Int).toNat
        omega
      · refine back_intro (by conv => whnf) rfl ⟨i + 1, rfl, rfl, by omega, cg_next hc hx (by assumption) (.inl (by omega))⟩ ?_
        show l.length - ((i : Int) + 1).toNat < l.length - (i : Int).toNat
        omega
      · rw [cg_end hc (by omega)]
  · cases h
def spSame : DSpec
  | [.lst (.st [.str, .str, .bool, .int .i64]) a, .lst (.st [.str, .str, .bool, .int .i64]) b] => some (a.length ≤ 4611686018427387904, .bool (sameL entT a b))
  | _ => none
theorem same_fin {t : Ty} {a b : List t.El} {i : Nat} (h : a.length ≤ i ∨ b.length ≤ i) (ha : i ≤ a.length) (hb : i ≤ b.length) : sameL t (a.drop i) (b.drop i) = ((a.length : Int) == b.length) := by
  by_cases e : a.length = b.length
  · rw [same_end (by omega) (by omega), e, beq_self_eq_true]
  · rw [same_len (by rw [List.length_drop, List.length_drop]; omega)]
    exact (beq_eq_false_iff_ne.2 (by omega)).symm
set_option maxRecDepth 100000 in
theorem fnOk_rSameL : FnOk Try.prog 21 Try.f21 := ⟨by rfl, by kernel_rfl, by
  show okCode _ _ = true ∧ drawsOk _ = true
  exact ⟨by kernel_rfl, by kernel_rfl⟩⟩
set_option maxRecDepth 100000 in
set_option maxHeartbeats 2000000 in
theorem rSameL_ok : SpecOk Try.prog 21 spSame := by
  refine spec_body (C := cx0) mixed tbOk SpecsOk.nil (callN_ok (C := cx0) mixed tbOk SpecsOk.nil FnsOk.nil 0) fnOk_rSameL ?_
  intro ys p r h hp
  unfold spSame at h
  split at h
  · rename_i a b
    cases h
    conv => whnf
    refine loop_inv [] [5] (fun vs h => ∃ i : Nat, vs = [.int .i64 (i : Int)] ∧ h = [] ∧ i ≤ a.length ∧ i ≤ b.length ∧ sameL entT a b = sameL entT (a.drop i) (b.drop i)) (fun vs _ => match vs with | [.int _ k] => a.length - k.toNat | _ => 0) ?_
    refine ⟨⟨0, rfl, rfl, Nat.zero_le _, Nat.zero_le _, rfl⟩, ?_⟩
    rintro vs h' - ⟨i, rfl, rfl, hi, hi2, hs⟩
    conv => whnf
    repeat' first
      | ((first | refine auT ?_ | refine auF ?_ | with_reducible first | refine auKt ?_ | refine auKf ?_ | refine auNt ?_ | refine auNf ?_ | refine auEt ?_ | refine auEf ?_); conv => whnf)
      | ((with_reducible first | refine br_dec (fun h => ?_) (fun h => ?_) | refine br_ndec (fun h => ?_) (fun h => ?_) | refine br_ne (fun h => ?_) (fun h => ?_) | refine br_eq (fun h => ?_) (fun h => ?_)) <;> first | (exfalso; omega) | conv => whnf)
      | (refine br_intro (fun h => ?_) (fun h => ?_) <;> conv => whnf)
      | ((first | refine auNd ?_ | refine idx_nat (by omega) (fun x hx => ?_) | refine frz_auto ?_ | refine draw_plain ?_ | refine auIx (fun x hx => ?_)); conv => whnf)
    · rename_i y hy
      rw [hs, same_step hy hx, show eqT entT y x = false from bnt h]
      rfl
    · rename_i y hy
      rw [same_step hy hx, show eqT entT y x = true from bnf h] at hs
      refine back_intro (by conv => whnf) rfl ⟨i + 1, rfl, rfl, by omega, by omega, hs⟩ ?_
      show a.length - ((i : Int) + 1).toNat < a.length - (i : Int).toNat
      omega
    · rw [hs, same_fin (by omega) hi hi2]
    · rw [hs, same_fin (by omega) hi hi2]
  · cases h
set_option maxRecDepth 100000 in
theorem fnOk_rSame : FnOk Try.prog 16 Try.f16 := ⟨by rfl, by kernel_rfl, by
  show okCode _ _ = true ∧ drawsOk _ = true
  exact ⟨by kernel_rfl, by kernel_rfl⟩⟩
def spBSame : DSpec
  | [.agg [.int .i64 i, .lst (.st [.str, .str, .bool, .int .i64]) a], .agg [.int .i64 j, .lst (.st [.str, .str, .bool, .int .i64]) b]] => some (a.length ≤ 4611686018427387904, .bool (i == j && sameL entT a b))
  | _ => none
noncomputable def cx24 : Cx := ⟨tb, [], [(21, spSame)]⟩
theorem specs24 : SpecsOk Try.prog cx24.specs := .cons rSameL_ok .nil
set_option maxRecDepth 100000 in
set_option maxHeartbeats 2000000 in
theorem rSame_ok : SpecOk Try.prog 16 spBSame := by
  refine spec_body (C := cx24) mixed tbOk specs24 (callN_ok (C := cx24) mixed tbOk specs24 FnsOk.nil 0) fnOk_rSame ?_
  intro ys p r h hp
  unfold spBSame at h
  split at h
  · rename_i i a j b
    cases h
    conv => whnf
    repeat' first
      | ((first | refine auT ?_ | refine auF ?_ | with_reducible first | refine auKt ?_ | refine auKf ?_ | refine auNt ?_ | refine auNf ?_ | refine auEt ?_ | refine auEf ?_); conv => whnf)
      | ((with_reducible first | refine br_dec (fun h => ?_) (fun h => ?_) | refine br_ndec (fun h => ?_) (fun h => ?_) | refine br_ne (fun h => ?_) (fun h => ?_) | refine br_eq (fun h => ?_) (fun h => ?_)) <;> first | (exfalso; omega) | conv => whnf)
      | (refine br_intro (fun h => ?_) (fun h => ?_) <;> conv => whnf)
      | ((first | refine auNd ?_ | refine idx_nat (by omega) (fun x hx => ?_) | refine frz_auto ?_ | refine draw_plain ?_ | refine auIx (fun x hx => ?_)); conv => whnf)
    all_goals simp [*]
  · cases h
end Go.Proofs.Ytfnikjihjjniiaa
namespace Go.Proofs.Ytfnikjihjjniiaa
open Av Bk

set_option maxRecDepth 100000 in
theorem fnOk_clone : FnOk Try.prog 35 Try.f35 := ⟨by rfl, by kernel_rfl, by
  show okCode _ _ = true ∧ drawsOk _ = true
  exact ⟨by kernel_rfl, by kernel_rfl⟩⟩
def spClone : DSpec
  | [.lst (.st [.str, .str, .bool, .int .i64]) l] => some (0 < l.length ∧ l.length ≤ 100000, .lst entT l)
  | _ => none
set_option maxRecDepth 100000 in
set_option maxHeartbeats 2000000 in
theorem clone_ok : SpecOk Try.prog 35 spClone := by
  refine spec_body (C := cx0) mixed tbOk SpecsOk.nil (callN_ok (C := cx0) mixed tbOk SpecsOk.nil FnsOk.nil 0) fnOk_clone ?_
  intro ys p r h hp
  unfold spClone at h
  split at h
  · rename_i l
    cases h
    obtain ⟨h0, h1⟩ := hp
    conv => whnf
    repeat' first
      | ((first | refine auT ?_ | refine auF ?_ | with_reducible first | refine auKt ?_ | refine auKf ?_ | refine auNt ?_ | refine auNf ?_ | refine auEt ?_ | refine auEf ?_); conv => whnf)
      | ((with_reducible first | refine br_dec (fun h => ?_) (fun h => ?_) | refine br_ndec (fun h => ?_) (fun h => ?_) | refine br_ne (fun h => ?_) (fun h => ?_) | refine br_eq (fun h => ?_) (fun h => ?_)) <;> first | (exfalso; omega) | conv => whnf)
      | (refine br_intro (fun h => ?_) (fun h => ?_) <;> conv => whnf)
      | ((first | refine auNd ?_ | refine idx_nat (by omega) (fun x hx => ?_) | refine frz_auto ?_ | refine draw_plain ?_ | refine auIx (fun x hx => ?_)); conv => whnf)
    simp only [cast_self, Nat.zero_add, List.take_zero, List.nil_append, List.take_length]
  · cases h
theorem chB_len {m : Int} {l : List entT.El} (h : (chB m l).2 = 0) : l.length ≤ 16 := by
  unfold chB at h
  split at h
  · cases h
  · split at h
    · cases h
    · omega
def seE (m : Int) (l : List entT.El) (id : Int) : Int := if (chB m l).2 ≠ 0 then (chB m l).2 else if l.length = 0 then 9 else if id < 1 ∨ 1000000 < id then 7 else 0
def spSeal : DSpec
  | [.agg [.int .i64 m, .lst (.st [.str, .str, .bool, .int .i64]) l], .int .i64 id] => some (True, .tup [.agg [.int .i64 (if seE m l id = 0 then id else 0), .lst entT (if seE m l id = 0 then l else [])], .agg [.int .i64 (if seE m l id = 0 then m else 0), .lst entT []], .int .i64 (seE m l id)])
  | _ => none
theorem seal_eq {a b c : Int} {x : List entT.El} {m id : Int} {l : List entT.El} (h : (a, x, b, c) = (if seE m l id = 0 then id else 0, if seE m l id = 0 then l else [], if seE m l id = 0 then m else 0, seE m l id)) : AV.tup [.agg [.int .i64 a, .lst entT x], .agg [.int .i64 b, .lst entT []], .int .i64 c] = AV.tup [.agg [.int .i64 (if seE m l id = 0 then id else 0), .lst entT (if seE m l id = 0 then l else [])], .agg [.int .i64 (if seE m l id = 0 then m else 0), .lst entT []], .int .i64 (seE m l id)] := by
  injection h with h1 h2
  injection h2 with h2 h3
  injection h3 with h3 h4
  rw [h1, h2, h3, h4]
set_option maxRecDepth 100000 in
theorem fnOk_bSeal : FnOk Try.prog 19 Try.f19 := ⟨by rfl, by kernel_rfl, by
  show okCode _ _ = true ∧ drawsOk _ = true
  exact ⟨by kernel_rfl, by kernel_rfl⟩⟩
noncomputable def cx25 : Cx := ⟨tb, [], [(24, spChB), (35, spClone)]⟩
theorem specs25 : SpecsOk Try.prog cx25.specs := .cons bChk_ok (.cons clone_ok .nil)
set_option maxRecDepth 100000 in
set_option maxHeartbeats 2000000 in
theorem bSeal_ok : SpecOk Try.prog 19 spSeal := by
  refine spec_body (C := cx25) mixed tbOk specs25 (callN_ok (C := cx25) mixed tbOk specs25 FnsOk.nil 0) fnOk_bSeal ?_
  intro ys p r h hp
  unfold spSeal at h
  split at h
  · rename_i m l id
    cases h
    have hl := @chB_len m l
    conv => whnf
    repeat' first
      | ((first | refine auT ?_ | refine auF ?_ | with_reducible first | refine auKt ?_ | refine auKf ?_ | refine auNt ?_ | refine auNf ?_ | refine auEt ?_ | refine auEf ?_); conv => whnf)
      | ((with_reducible first | refine br_dec (fun h => ?_) (fun h => ?_) | refine br_ndec (fun h => ?_) (fun h => ?_) | refine br_ne (fun h => ?_) (fun h => ?_) | refine br_eq (fun h => ?_) (fun h => ?_)) <;> first | (exfalso; omega) | conv => whnf)
      | (refine br_intro (fun h => ?_) (fun h => ?_) <;> conv => whnf)
      | ((first | refine auNd ?_ | refine idx_nat (by omega) (fun x hx => ?_) | refine frz_auto ?_ | refine draw_plain ?_ | refine auIx (fun x hx => ?_)); conv => whnf)
    all_goals first
      | (refine seal_eq ?_; grind [seE])
      | skip
  · cases h
end Go.Proofs.Ytfnikjihjjniiaa
namespace Go.Proofs.Ytfnikjihjjniiaa
open Av Bk Go.Proofs Go.Lib

theorem enInfo : ∃ ie z, Try.prog.info? 35 = some ie ∧ ie.size = 4 ∧ ie.bytes = 48 ∧ ie.zero = some z ∧ z.cells.size = 4 := by
  obtain ⟨ie, z, h1, h2, h3, h4, h5⟩ := (Av.tb_und tbOk (T := 35) (ti := _) rfl).info
  refine ⟨ie, z, h1, h2, h3, h4, ?_⟩
  have := Av.zero_size tbOk (e := 35) (te := _) rfl (t := entT) rfl h1 h4
  exact this
set_option maxRecDepth 100000 in
theorem fnOk_cloneE : FnOk Try.prog 35 Try.f35 := ⟨by rfl, by kernel_rfl, by
  show okCode _ _ = true ∧ drawsOk _ = true
  exact ⟨by kernel_rfl, by kernel_rfl⟩⟩
theorem eq_run (w : World) (a : Option Addr) (cap : Nat) : (Go.binOp BinOp.eql 22 (.slice a 0 cap) (.slice none 0 0)).run Try.prog w = .ok (.bool a.isNone) w := by
  have h : (Op.equal 22 (.slice a 0 cap) (.slice none 0 0)).run Try.prog w = .ok a.isNone w := sliceEq_run 9999 _ _ Try.underlying22 a 0 cap w
  have hb : Go.binOp BinOp.eql 22 (.slice a 0 cap) (.slice none 0 0) = (do pure (.bool (← Op.equal 22 (.slice a 0 cap) (.slice none 0 0)))) := rfl
  rw [hb]
  simp only [Sem.run_bind, h, Result.andThen_ok, Sem.run_pure]
theorem bs_run (w : World) : (Instr.buildSlice 22 0 #[]).run Try.prog w = .ok (.slice (some ⟨w.heap.size, 0, none⟩) 0 0) (w.alloc (.cells #[] 35)) := by
  obtain ⟨ie, z, hie, hzs, hzb, hz0, hzc⟩ := enInfo
  simp [Instr.buildSlice, run_underlying Try.underlying22, sizeOf, typeInfo, zeroValue, hie, hz0, newRow, Instr.fill]
  have h0 : (Array.range 0).map (fun _ => (default : Value)) = #[] := by simp
  first | rw [h0] | simp
theorem ap_run (w : World) (ty : TypeId) (b : Nat) (a : Option Addr) (cap : Nat) : (Builtin.append_ #[22, 22] ty #[.slice (some ⟨b, 0, none⟩) 0 0, .slice a 0 cap]).run Try.prog w = .ok (.slice (some ⟨b, 0, none⟩) 0 0) w := by
  obtain ⟨ie, z, hie, hzs, hzb, hz0, hzc⟩ := enInfo
  cases a <;> simp [Builtin.append_, run_underlying Try.underlying22, Builtin.lenOf, Builtin.firstCells, sizeOf, typeInfo, hie, loadCells, storeCells, loadCellsFrom]
set_option maxHeartbeats 4000000 in
set_option maxRecDepth 100000 in
theorem clone_none (w : World) (a : Option Addr) (cap : Nat) :
    Calls Try.prog 35 #[.slice a 0 cap] w fun e w' => (e = .returned (.slice none 0 0) ∧ w' = w) ∨ (e = .returned (.slice (some ⟨w.heap.size, 0, none⟩) 0 0) ∧ w' = w.alloc (.cells #[] 35)) := by
  have mixed := mixed
  go_enter Try.func35, Try.ntmps35
  cases a with
  | none =>
    go_wp2_with (simp only [eq_run])
    go_ret
    exact .inl ⟨rfl, rfl⟩
  | some a =>
    go_wp2_with (first | simp only [eq_run] | simp only [bs_run] | (at_builtin; refine Lib.wpList_append_run _ rfl _ _ _ _ rfl _ _ rfl rfl _ _ (ap_run _ _ _ _ _) ?_))
    go_ret
    exact .inr ⟨rfl, rfl⟩
def spClE : FSpec
  | [.lst (.st [.str, .str, .bool, .int .i64]) m] => some (m.length ≤ 100000, ⟨35, entT, m⟩)
  | _ => none
def spClE1 : FSpec
  | [.lst (.st [.str, .str, .bool, .int .i64]) m] => some (1 ≤ m.length ∧ m.length ≤ 100000, ⟨35, entT, m⟩)
  | _ => none
set_option maxRecDepth 100000 in
set_option maxHeartbeats 2000000 in
theorem cloneE1_ok : FreshOk Try.prog 35 spClE1 := by
  refine fresh_body (C := cx0) mixed tbOk SpecsOk.nil (callN_ok (C := cx0) mixed tbOk SpecsOk.nil FnsOk.nil 0) fnOk_cloneE ?_
  intro ys p r h hp
  unfold spClE1 at h
  split at h
  · rename_i ks
    cases h
    obtain ⟨h1, h2⟩ := hp
    conv => whnf
    repeat' first
      | ((first | refine auT ?_ | refine auF ?_ | with_reducible first | refine auKt ?_ | refine auKf ?_ | refine auNt ?_ | refine auNf ?_ | refine auEt ?_ | refine auEf ?_); conv => whnf)
      | ((with_reducible first | refine br_dec (fun h => ?_) (fun h => ?_) | refine br_ndec (fun h => ?_) (fun h => ?_) | refine br_ne (fun h => ?_) (fun h => ?_) | refine br_eq (fun h => ?_) (fun h => ?_)) <;> first | (exfalso; omega) | conv => whnf)
      | (refine br_intro (fun h => ?_) (fun h => ?_) <;> conv => whnf)
      | ((first | refine auNd ?_ | refine idx_nat (by omega) (fun x hx => ?_) | refine frz_auto ?_ | refine draw_plain ?_ | refine auIx (fun x hx => ?_)); conv => whnf)
    exact ⟨1, 1, false, by simp only [cast_self, Nat.zero_add], by simp only [cast_self, List.take_zero, List.nil_append]; rfl⟩
  · cases h
theorem cloneE_ok : FreshOk Try.prog 35 spClE := by
  refine ⟨cloneE1_ok.1, fun ys p r hsp hp s hok hh cs hr => ?_⟩
  unfold spClE at hsp
  split at hsp
  · rename_i m
    cases hsp
    rcases m with _ | ⟨x, m⟩
    · simp only [RL, R] at hr
      obtain ⟨v, _, rfl, ⟨a, cap, rfl, _, _⟩, rfl⟩ := hr
      have hf : Free s.h 0 := by rw [hh]; exact .inl rfl
      refine Calls.mono (clone_none s.w a cap) ?_
      have key : ∀ (v : Value) (w' : World), Grew s.w w' → (∀ b, blkOf v = some b → s.w.heap.size ≤ b) → w'.ownsRow 0 35 (Ty.size entT) v 0 [] → (∃ base cap, v = .slice base 0 cap) →
          ∃ s' cr g' f', Ending.returned v = .returned cr ∧ s'.w = w' ∧ Step s s' ∧ Ok s' ∧ s'.h = [.arr 35 entT [] f' g'] ∧ R s' (.own 0 g' 0) cr := by
        intro v w' hg hb hrow hv
        have hhp : put s.h 0 (.arr 35 entT [] false 0) = [.arr 35 entT [] false 0] := by rw [hh]; rfl
        refine ⟨s.new 0 (.arr 35 entT [] false 0) v w', v, 0, false, rfl, rfl, St.new_step hf hg hb, St.new_ok hok hf hg hb ⟨[], ?_, by simp, fun i x hi => by simp at hi, fun h => by cases h⟩, hhp, ?_⟩
        · simp only [St.new, upd_same]
          exact hrow
        · obtain ⟨base, cap, rfl⟩ := hv
          simp only [R]
          refine ⟨by unfold Av.kn; simp only [St.new]; rw [hhp]; rfl, base, cap, rfl, fun T t l f g0 ho => ?_⟩
          simp only [St.new] at ho
          rw [hhp] at ho
          cases ho
          exact ⟨Nat.le_refl _, fun _ => ⟨Nat.le_refl _, 0, by simp only [St.new, upd_same]⟩⟩
      rintro e w' (⟨rfl, rfl⟩ | ⟨rfl, rfl⟩)
      · exact key _ _ (Grew.refl _) (fun b hb => by cases hb) ⟨rfl, .inl ⟨rfl, rfl⟩⟩ ⟨_, _, rfl⟩
      · exact key _ _ (Grew.alloc _ _) (fun b hb => by cases hb; exact Nat.le_refl _) ⟨rfl, .inr ⟨_, 0, #[], rfl, Nat.zero_le _, Go.heap_alloc_new _ _, Nat.le_refl _, by decide, rfl, rfl⟩⟩ ⟨_, _, rfl⟩
    · exact cloneE1_ok.2 _ _ _ (show spClE1 [.lst (.st [.str, .str, .bool, .int .i64]) (x :: m)] = some (_, _) from rfl) ⟨by simp, hp⟩ s hok hh cs hr
  · cases hsp
end Go.Proofs.Ytfnikjihjjniiaa
namespace Go.Proofs.Ytfnikjihjjniiaa
open Av Bk

def ascS (l : List entT.El) : Prop := ∀ (k : Nat) (x y : entT.El), l[k]? = some x → l[k + 1]? = some y → sLt x.1 y.1 = true
/-- How many keys at the beginning are less than one. -/
def lb (key : ByteArray) : List entT.El → Nat
  | [] => 0
  | y :: l => if sLt y.1 key = true then lb key l + 1 else 0
theorem lb_le (key : ByteArray) : ∀ l, lb key l ≤ l.length
  | [] => Nat.le_refl _
  | y :: l => by
    simp only [lb]
    split
    · have := lb_le key l; simp; omega
    · exact Nat.zero_le _
theorem lb_lt {key : ByteArray} : ∀ {l : List entT.El} {k : Nat} {y : entT.El}, k < lb key l → l[k]? = some y → sLt y.1 key = true
  | [], k, y, h, _ => by simp [lb] at h
  | x :: l, 0, y, h, hy => by
    cases hy
    simp only [lb] at h
    split at h
    · assumption
    · omega
  | x :: l, k + 1, y, h, hy => by
    simp only [lb] at h
    split at h
    · exact lb_lt (l := l) (k := k) (by omega) (by simpa using hy)
    · omega
theorem sLt_trans {a b c : ByteArray} (h1 : sLt a b = true) (h2 : sLt b c = true) : sLt a c = true := bl_trans _ _ _ h1 h2
theorem sLt_irrefl (a : ByteArray) : sLt a a = false := bl_irrefl _
theorem ascS_tail {x : entT.El} {l : List entT.El} (h : ascS (x :: l)) : ascS l := fun k y z hy hz => h (k + 1) y z (by simpa using hy) (by simpa using hz)
theorem ascS_head {l : List entT.El} : ∀ {x y : entT.El} {k : Nat}, ascS (x :: l) → l[k]? = some y → sLt x.1 y.1 = true := by
  induction l with
  | nil => intro x y k _ h; simp at h
  | cons z l ih =>
    intro x y k h hy
    have h0 : sLt x.1 z.1 = true := h 0 x z rfl rfl
    cases k with
    | zero => cases hy; exact h0
    | succ k => exact sLt_trans h0 (ih (ascS_tail h) (by simpa using hy))
theorem lb_ge {key : ByteArray} : ∀ {l : List entT.El} {k : Nat} {y : entT.El}, ascS l → lb key l ≤ k → l[k]? = some y → sLt y.1 key = false
  | [], k, y, _, _, hy => by simp at hy
  | x :: l, 0, y, ha, h, hy => by
    cases hy
    simp only [lb] at h
    split at h
    · omega
    · rename_i hn; simpa using hn
  | x :: l, k + 1, y, ha, h, hy => by
    simp only [lb] at h
    split at h
    · exact lb_ge (l := l) (k := k) (ascS_tail ha) (by omega) (by simpa using hy)
    · rename_i hn
      cases hlt : sLt y.1 key with
      | false => rfl
      | true => exact absurd (sLt_trans (ascS_head ha (by simpa using hy)) hlt) hn
def foundK (key : ByteArray) (l : List entT.El) : Bool := match l[lb key l]? with
  | some y => sEq y.1 key
  | none => false
def spFind : DSpec
  | [.lst (.st [.str, .str, .bool, .int .i64]) l, .str key] => some (ascS l ∧ l.length ≤ 100000, .tup [.int .i64 (lb key l : Nat), .bool (foundK key l)])
  | _ => none
theorem two_int {a b c d : Int} (h1 : a = c) (h2 : b = d) : [AV.int .i64 a, .int .i64 b] = [AV.int .i64 c, .int .i64 d] := by rw [h1, h2]
set_option maxRecDepth 100000 in
theorem fnOk_bFind : FnOk Try.prog 39 Try.f39 := ⟨by rfl, by kernel_rfl, by
  show okCode _ _ = true ∧ drawsOk _ = true
  exact ⟨by kernel_rfl, by kernel_rfl⟩⟩
set_option maxRecDepth 100000 in
theorem fnOk_bFind1 : FnOk Try.prog 48 Try.f48 := ⟨by rfl, by kernel_rfl, by
  show okCode _ _ = true ∧ drawsOk _ = true
  exact ⟨by kernel_rfl, by kernel_rfl⟩⟩
set_option maxRecDepth 100000 in
theorem fnOk_search : FnOk Try.prog 47 Try.f47 := ⟨by rfl, by kernel_rfl, by
  show okCode _ _ = true ∧ drawsOk _ = true
  exact ⟨by kernel_rfl, by kernel_rfl⟩⟩
noncomputable def cx30 : Cx := ⟨tb, [(47, Try.f47), (48, Try.f48)], []⟩
theorem fns30 : FnsOk Try.prog cx30.fns := .cons fnOk_search (.cons fnOk_bFind1 .nil)
set_option maxRecDepth 100000 in
set_option maxHeartbeats 2000000 in
theorem bFind_ok : SpecOk Try.prog 39 spFind := by
  refine spec_body (C := cx30) mixed tbOk SpecsOk.nil (callN_ok (C := cx30) mixed tbOk SpecsOk.nil fns30 3) fnOk_bFind ?_
  intro ys p r h hp
  unfold spFind at h
  split at h
  · rename_i l key
    cases h
    obtain ⟨ha, hl⟩ := hp
    have hle := lb_le key l
    conv => whnf
    refine loop_inv [] [5, 6] (fun vs h => ∃ i j : Nat, vs = [.int .i64 (i : Int), .int .i64 (j : Int)] ∧ h = [.cells 22 [.lst entT l], .cells 9 [.str key]] ∧ i ≤ lb key l ∧ lb key l ≤ j ∧ j ≤ l.length) (fun vs _ => match vs with | [.int _ i, .int _ j] => j.toNat - i.toNat | _ => 0) ?_
    conv => whnf
    refine ⟨⟨0, l.length, rfl, rfl, Nat.zero_le _, hle, Nat.le_refl _⟩, ?_⟩
    rintro vs h' - ⟨i, j, rfl, rfl, hi, hj, hjl⟩
    have hm : ((i : Int) + j) / 2 ^ Int.toNat 1 = (((i + j) / 2 : Nat) : Int) := by
      show ((i : Int) + j) / 2 = _
      omega
    conv => whnf
    repeat' first
      | ((first | refine auT ?_ | refine auF ?_ | with_reducible first | refine auKt ?_ | refine auKf ?_ | refine auNt ?_ | refine auNf ?_ | refine auEt ?_ | refine auEf ?_); conv => whnf)
      | ((with_reducible first | refine br_dec (fun h => ?_) (fun h => ?_) | refine br_ndec (fun h => ?_) (fun h => ?_) | refine br_ne (fun h => ?_) (fun h => ?_) | refine br_eq (fun h => ?_) (fun h => ?_)) <;> first | (exfalso; omega) | conv => whnf)
      | (refine br_intro (fun h => ?_) (fun h => ?_) <;> conv => whnf)
      | ((first | refine auNd ?_ | refine idx_nat (by omega) (fun x hx => ?_) | refine frz_auto ?_ | refine draw_plain ?_ | refine auIx (fun x hx => ?_)); conv => whnf)
    · rw [hm] at hx
      have hx : l[(i + j) / 2]? = some x := hx
      have hlt : (i + j) / 2 < lb key l := by
        rcases Nat.lt_or_ge ((i + j) / 2) (lb key l) with h1 | h1
        · exact h1
        · rw [lb_ge ha h1 hx] at h; cases h
      refine back_intro (by conv => whnf) rfl ⟨(i + j) / 2 + 1, j, ?_, rfl, by omega, hj, hjl⟩ ?_
      · exact two_int (by rw [hm]; rfl) rfl
      · show (j : Int).toNat - (((i : Int) + j) / 2 ^ Int.toNat 1 + 1).toNat < (j : Int).toNat - (i : Int).toNat
        rw [hm]
        omega
    · rw [hm] at hx
      have hx : l[(i + j) / 2]? = some x := hx
      have hge : lb key l ≤ (i + j) / 2 := by
        rcases Nat.lt_or_ge ((i + j) / 2) (lb key l) with h1 | h1
        · rw [lb_lt h1 hx] at h; cases h
        · exact h1
      refine back_intro (by conv => whnf) rfl ⟨i, (i + j) / 2, ?_, rfl, hi, hge, by omega⟩ ?_
      · exact two_int rfl hm
      · show (((i : Int) + j) / 2 ^ Int.toNat 1).toNat - (i : Int).toNat < (j : Int).toNat - (i : Int).toNat
        rw [hm]
        omega
    · have e : i = lb key l := by omega
      subst e
      rw [foundK, hx]
    · have e : i = lb key l := by omega
      subst e
      rw [foundK, List.getElem?_eq_none (by omega)]
  · cases h
end Go.Proofs.Ytfnikjihjjniiaa
