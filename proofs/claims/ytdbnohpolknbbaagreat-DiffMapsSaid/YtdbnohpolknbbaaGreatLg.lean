/-
  From a row's arguments to the reckoning: whatever data come in, they are lists and tuples; a law that is reckoned to return true does so in the model.
  Ascending lists of entries: their first fault, by both.
  Checks of runs and of views.
  Keys, ranges; the error of a view and a key.
  Keys in ranges; the error of a view and a key; the order of strings.
  The order of strings as a number, and lists without a fault: plain Lean.
  The parts of a view; the newest entry of a key, by both.
-/
import Derived.Test.YtdbnohpolknbbaaGreatE5
import Derived.ProofKit
import Derived.Deep.Slices
import Derived.Lib.SmallJoins
import Derived.ChangeMaps5
import Derived.OpenShut
import Derived.Test.YtdbnohpolknbbaaGreatE4
namespace Av
open Go Go.ChangeShapes Go.WideShapes Go.ChangeAt Go.RowKit Go.Joins Go.Deep

/-! ### Data that a program can hold -/
mutual
def tyOk : (t : Ty) → t.El → Prop
  | .bool, _ => True
  | .int k, n => inR k n
  | .str, s => ByteArray.size s ≤ 9223372036854775807
  | .sl e, l => let l' : List e.El := l; l'.length ≤ 9223372036854775807 ∧ ∀ x ∈ l', tyOk e x
  | .st fs, x => tyOks fs x
  | .ifc _ _, _ => True
def tyOks : (ts : List Ty) → Ty.Els ts → Prop
  | [], _ => True
  | t :: ts, x => tyOk t x.1 ∧ tyOks ts x.2
end
/-! The same, of a bounded size -/
mutual
def tyB (N : Nat) : (t : Ty) → t.El → Prop
  | .bool, _ => True
  | .int _, _ => True
  | .str, s => ByteArray.size s ≤ N
  | .sl e, l => let l' : List e.El := l; l'.length ≤ N ∧ ∀ x ∈ l', tyB N e x
  | .st fs, x => tyBs N fs x
  | .ifc _ _, _ => True
def tyBs (N : Nat) : (ts : List Ty) → Ty.Els ts → Prop
  | [], _ => True
  | t :: ts, x => tyB N t x.1 ∧ tyBs N ts x.2
end
mutual
theorem tyB_mono {N M : Nat} (h : N ≤ M) : ∀ (t : Ty) (e : t.El), tyB N t e → tyB M t e
  | .bool, _, _ => by simp only [tyB]
  | .int _, _, _ => by simp only [tyB]
  | .str, s, hs => by simp only [tyB] at hs ⊢; omega
  | .sl e, l, hl => by
    simp only [tyB] at hl ⊢
    exact ⟨Nat.le_trans hl.1 h, fun x hx => tyB_mono h e x (hl.2 x hx)⟩
  | .st fs, x, hx => by
    simp only [tyB] at hx ⊢
    exact tyBs_mono h fs x hx
  | .ifc _ _, _, _ => by simp only [tyB]
theorem tyBs_mono {N M : Nat} (h : N ≤ M) : ∀ (ts : List Ty) (e : Ty.Els ts), tyBs N ts e → tyBs M ts e
  | [], _, _ => by simp only [tyBs]
  | t :: ts, x, hx => by
    simp only [tyBs] at hx ⊢
    exact ⟨tyB_mono h t x.1 hx.1, tyBs_mono h ts x.2 hx.2⟩
end
/-- A measure of data. -/
structure Meas {H : Type} (m : DataW H → Nat) : Prop where
  str : ∀ b, b.length ≤ m (.lit (.string b))
  sl : ∀ es sp, es.length ≤ m (.slice es sp)
  slE : ∀ es sp d, d ∈ es → m d ≤ m (.slice es sp)
  agg : ∀ ps d, d ∈ ps → m d ≤ m (.agg ps)
def tyO {H : Type} (D : DataW H) (t : Ty) (e : t.El) : Prop := tyOk t e ∧ ∀ m : DataW H → Nat, Meas m → tyB (m D) t e
def tyOs {H : Type} (D : DataW H) (ts : List Ty) (e : Ty.Els ts) : Prop := tyOks ts e ∧ ∀ m : DataW H → Nat, Meas m → tyBs (m D) ts e
theorem tyOs_cons {H : Type} {D D1 : DataW H} {t : Ty} {ts : List Ty} {e : t.El} {es : Ty.Els ts} (h : ∀ m, Meas m → m D1 ≤ m D) (h1 : tyO D1 t e) (h2 : tyOs D ts es) : tyOs D (t :: ts) (e, es) :=
  ⟨by simp only [tyOks]; exact ⟨h1.1, h2.1⟩, fun m hm => by simp only [tyBs]; exact ⟨tyB_mono (h m hm) t e (h1.2 m hm), h2.2 m hm⟩⟩
theorem tyOs_nil {H : Type} {D : DataW H} : tyOs D [] () := ⟨by simp only [tyOks], fun m hm => by simp only [tyBs]⟩
def avT : (t : Ty) → t.El → AV
  | .bool, b => .bool b
  | .int k, n => .int k n
  | .str, s => .str s
  | .sl e, l => .lst e l
  | .st fs, x => .agg (flats fs x)
  | .ifc Ts ts, x => altV ts Ts x
def avTs : (ts : List Ty) → Ty.Els ts → List AV
  | [], _ => []
  | t :: ts, x => avT t x.1 :: avTs ts x.2

/-! ### Which type of the program is which type of data -/
def chkGs (P : Program) (chk : TypeId → Ty → Bool) : List Field → List Ty → Nat → Bool
  | [], [], _ => true
  | f :: fs, t :: ts, off => Nat.beq f.offset off && (chk f.type t && chkGs P chk fs ts (off + t.size))
  | _, _, _ => false
def chkAr (chk : Ty → Bool) (z : Nat) : List Ty → Bool
  | [] => true
  | t :: ts => (Nat.beq t.size z && chk t) && chkAr chk z ts
def chkG (P : Program) : Nat → TypeId → Ty → Bool
  | 0, _, _ => false
  | d + 1, T, t => Nat.beq (P.cellsOf T) t.size && (Nat.ble 1 t.size && match t, P.underlying T with
    | .bool, some .bool => true
    | .int k, some (.int k') => decide (k = k')
    | .str, some .string => true
    | .sl e, some (.slice E) => chkG P d E e
    | .st ts, some (.struct gs) => chkGs P (chkG P d) gs.toList ts 0
    | .st ts, some (.array n E) => Nat.beq ts.length n && chkAr (chkG P d E) (P.cellsOf E) ts
    | _, _ => false)
def chkAll (P : Program) : List TypeId → List Ty → Bool
  | [], [] => true
  | T :: Ts, t :: ts => chkG P 50 T t && chkAll P Ts ts
  | _, _ => false

theorem wf_inR {k : IntKind} {n : Int} (h : (Lit.int k n).wf = true) : inR k n := by
  simp only [Lit.wf, Bool.and_eq_true, decide_eq_true_eq] at h
  cases k <;> simp [IntKind.min, IntKind.max, IntKind.bits, IntKind.signed] at h <;> simp only [inR] <;> omega
theorem exists_list {α : Type} {p : Nat → α → Prop} : ∀ (n : Nat), (∀ i, i < n → ∃ x, p i x) → ∃ l : List α, l.length = n ∧ ∀ i x, l[i]? = some x → p i x
  | 0, _ => ⟨[], rfl, fun i x h => by simp at h⟩
  | n + 1, h => by
    obtain ⟨l, hl, hp⟩ := exists_list n (fun i hi => h i (by omega))
    obtain ⟨x, hx⟩ := h n (by omega)
    refine ⟨l ++ [x], by simp [hl], fun i y hy => ?_⟩
    by_cases hi : i < l.length
    · rw [List.getElem?_append_left hi] at hy; exact hp i y hy
    · rw [List.getElem?_append_right (by omega)] at hy
      have h0 : i - l.length = 0 := by
        have := (List.getElem?_eq_some_iff.1 hy).1
        simp at this; omega
      rw [h0] at hy
      simp at hy
      subst hy
      rw [show i = n by omega]
      exact hx
theorem spot_none' {w : World} {a : Addr} {v : Value} (h : w.cell? a = some v) : a.spot = none := by
  unfold World.cell? at h
  split at h
  · cases hs : a.spot with
    | none => rfl
    | some s => simp [hs] at h
  · cases h
theorem add_at' {a : Addr} (h : a.spot = none) (k : Nat) : a.add k = ⟨a.block, a.off + k, none⟩ := by
  obtain ⟨b, o, s⟩ := a
  simp only at h
  subst h
  unfold Addr.add
  split <;> simp_all

section
variable {H : Type} {enc : TypeId × Value → H} {P : Program} {w : World} {base : Nat} {spare : Nat → Bool} {held : Bool}
theorem open_fs {s : St} {chk : TypeId → Ty → Bool} {n : Nat} {cs : List Value} {D : DataW H}
    (ih : ∀ (t : Ty) (T : TypeId) (cs : List Value) (x : DataW H × List MemPlace), chk T t = true → DataW.trod enc P w base spare held n T cs = some x → ∃ e : t.El, RT s t e (fun j => cs[j]?) ∧ tyO x.1 t e) :
    ∀ (gs : List Field) (ts : List Ty) (off : Nat), chkGs P chk gs ts off = true → (∀ f ∈ gs, ∃ y, DataW.trod enc P w base spare held n f.type ((cs.drop f.offset).take (P.cellsOf f.type)) = some y ∧ ∀ m, Meas m → m y.1 ≤ m D) → ∃ e : Ty.Els ts, RTs s ts e (fun j => cs[off + j]?) ∧ tyOs D ts e
  | [], [], _, _, _ => ⟨(), by simp only [RTs], tyOs_nil⟩
  | [], _ :: _, _, h, _ => by simp [chkGs] at h
  | _ :: _, [], _, h, _ => by simp [chkGs] at h
  | f :: gs, t :: ts, off, h, hf => by
    simp only [chkGs, Bool.and_eq_true] at h
    obtain ⟨h1, h2, h3⟩ := h
    obtain ⟨y, hy, hym⟩ := hf f (by simp)
    obtain ⟨e, he, hok⟩ := ih t f.type _ y h2 hy
    obtain ⟨es, hes, hoks⟩ := open_fs ih gs ts (off + t.size) h3 (fun g hg => hf g (by simp [hg]))
    have h1 := Nat.eq_of_beq_eq_true h1
    refine ⟨(e, es), ?_, ?_⟩
    · simp only [RTs]
      refine ⟨RT_mono (Step.refl s) t e _ _ (fun j v hv => ?_) he, ?_⟩
      · rw [List.getElem?_take] at hv
        split at hv
        · rw [List.getElem?_drop, h1] at hv; exact hv
        · cases hv
      · simp only [← Nat.add_assoc]
        exact hes
    · exact tyOs_cons hym hok hoks
theorem open_ar {s : St} {chk : Ty → Bool} {n z : Nat} {E : TypeId} {cs : List Value} {D : DataW H}
    (ih : ∀ (t : Ty) (cs : List Value) (x : DataW H × List MemPlace), chk t = true → DataW.trod enc P w base spare held n E cs = some x → ∃ e : t.El, RT s t e (fun j => cs[j]?) ∧ tyO x.1 t e) :
    ∀ (ts : List Ty) (k : Nat), chkAr chk z ts = true → (∀ i, i < ts.length → ∃ y, DataW.trod enc P w base spare held n E ((cs.drop ((k + i) * z)).take z) = some y ∧ ∀ m, Meas m → m y.1 ≤ m D) → ∃ e : Ty.Els ts, RTs s ts e (fun j => cs[k * z + j]?) ∧ tyOs D ts e
  | [], _, _, _ => ⟨(), by simp only [RTs], tyOs_nil⟩
  | t :: ts, k, h, hf => by
    simp only [chkAr, Bool.and_eq_true] at h
    obtain ⟨⟨h1, h2⟩, h3⟩ := h
    obtain ⟨y, hy, hym⟩ := hf 0 (by simp)
    obtain ⟨e, he, hok⟩ := ih t _ y h2 hy
    obtain ⟨es, hes, hoks⟩ := open_ar ih ts (k + 1) h3 (fun i hi => by
      have := hf (i + 1) (by simpa using hi)
      rwa [show k + (i + 1) = k + 1 + i by omega] at this)
    have h1 := Nat.eq_of_beq_eq_true h1
    refine ⟨(e, es), ?_, ?_⟩
    · simp only [RTs]
      refine ⟨RT_mono (Step.refl s) t e _ _ (fun j v hv => ?_) he, ?_⟩
      · rw [List.getElem?_take] at hv
        split at hv
        · rw [List.getElem?_drop, Nat.add_zero] at hv; exact hv
        · cases hv
      · rw [h1]
        simp only [← Nat.add_assoc]
        rw [Nat.add_mul, Nat.one_mul] at hes
        exact hes
    · exact tyOs_cons hym hok hoks
theorem open_ty {s : St} (hw : s.w = w) (hF : ∀ b, ¬ Own s b) : ∀ (d : Nat) (t : Ty) (T : TypeId) (fuel : Nat) (cs : List Value) (x : DataW H × List MemPlace), chkG P d T t = true → DataW.trod enc P w base spare held fuel T cs = some x → ∃ e : t.El, RT s t e (fun j => cs[j]?) ∧ tyO x.1 t e
  | 0, t, T, fuel, cs, x, h, _ => by simp [chkG] at h
  | d + 1, t, T, fuel, cs, x, h, hx => by
    simp only [chkG, Bool.and_eq_true] at h
    obtain ⟨hz, hq, h⟩ := h
    split at h
    · rename_i hu
      obtain ⟨b, rfl, _⟩ := DataW.trod_bool hu hx
      exact ⟨b, by simp [RT], by simp only [tyOk], fun m hm => by simp only [tyB]⟩
    · rename_i k k' hu
      have := of_decide_eq_true h
      subst this
      obtain ⟨b, rfl, _, hwf⟩ := DataW.trod_int hu hx
      exact ⟨b, by simp [RT], by simp only [tyOk]; exact wf_inR hwf, fun m hm => by simp only [tyB]⟩
    · rename_i hu
      obtain ⟨b, rfl, rfl, hsz⟩ := DataW.trod_string hu hx
      exact ⟨b, by simp [RT], by simp only [tyOk]; exact hsz, fun m hm => by
        have h1 := hm.str b.data.toList
        simp only [tyB]
        have h2 : b.data.toList.length = b.size := rfl
        omega⟩
    · rename_i e E hu
      have hcE : P.cellsOf E = e.size ∧ 1 ≤ e.size := by
        cases d with
        | zero => simp [chkG] at h
        | succ d =>
          simp only [chkG, Bool.and_eq_true] at h
          exact ⟨Nat.eq_of_beq_eq_true h.1, Nat.le_of_ble_eq_true h.2.1⟩
      rcases open_slice hu hx with ⟨rfl, _⟩ | ⟨a, len, cap, m, n, D, Pl, rfl, hb, hl, hm, hmm, rfl, hel⟩
      · refine ⟨[], ?_, ?_, fun m hm => ?_⟩
        · simp only [RT]
          exact ⟨none, 0, rfl, Nat.le_refl _, fun h => absurd rfl h⟩
        · simp only [tyOk]
          exact ⟨by show 0 ≤ _; omega, fun x hx => by cases hx⟩
        · simp only [tyB]
          exact ⟨Nat.zero_le _, fun x hx => by cases hx⟩
      · have hlm : len ≤ m := by rw [hmm]; split <;> omega
        have hsp : 0 < len → a.spot = none := by
          intro h0
          obtain ⟨cs', h1, h2⟩ := hel 0 (by omega)
          rw [hcE.1] at h1
          obtain ⟨_, hlen, hc⟩ := World.cells?_some h1
          have hcell0 := hc 0 (by omega)
          rw [Deep.add_add, Nat.zero_mul, show a.add (0 + 0) = a from by simp [Addr.add]] at hcell0
          exact spot_none' (hcell0.trans (List.getElem?_eq_getElem (by omega)))
        have hall : ∀ i, i < len → ∃ y : e.El, (a.spot = none ∧ a.block < w.heap.size ∧ RT s e y (fun j => w.cell? ⟨a.block, a.off + i * e.size + j, none⟩)) ∧ tyO (D i) e y := by
          intro i hi
          obtain ⟨cs', h1, h2⟩ := hel i (by omega)
          obtain ⟨y, hy, hok⟩ := open_ty hw hF d e E n cs' _ h h2
          rw [hcE.1] at h1
          obtain ⟨_, hlen, hc⟩ := World.cells?_some h1
          have hsp := hsp (by omega)
          have hcell0 := hc 0 (by omega)
          rw [Deep.add_add] at hcell0
          have h0 : ∃ v, w.cell? (a.add (i * e.size + 0)) = some v := ⟨_, hcell0.trans (List.getElem?_eq_getElem (by omega))⟩
          obtain ⟨v0, h0⟩ := h0
          have hlt : a.block < w.heap.size := by
            have := World.block_lt_of_cell? w _ h0
            rw [add_at' hsp] at this
            exact this
          refine ⟨y, ⟨hsp, hlt, RT_mono (Step.refl s) e y _ _ (fun j v hv => ?_) hy⟩, hok⟩
          have hj : j < e.size := by have := (List.getElem?_eq_some_iff.1 hv).1; omega
          have h3 := hc j hj
          rw [Deep.add_add, add_at' hsp, ← Nat.add_assoc] at h3
          rw [h3]; exact hv
        obtain ⟨l, hll, hlp⟩ := exists_list len hall
        refine ⟨l, ?_, ?_, fun m' hm' => ?_⟩
        · simp only [RT]
          refine ⟨some a, cap, by rw [hll]; rfl, by rw [hll]; exact hl, fun hne => ?_⟩
          have hpos : 0 < l.length := List.length_pos_iff.2 hne
          obtain ⟨⟨hsp, hlt, _⟩, _⟩ := hlp 0 _ (List.getElem?_eq_getElem hpos)
          refine ⟨a.block, a.off, ?_, by rw [hw]; exact hlt, hF _, fun i x hi => ?_⟩
          · obtain ⟨b, o, sp⟩ := a
            simp only at hsp
            subst hsp
            rfl
          · rw [hw]; exact (hlp i x hi).1.2.2
        · simp only [tyOk]
          refine ⟨?_, fun x hx => ?_⟩
          · show l.length ≤ _
            rw [hll]
            have : cap ≤ 9223372036854775807 := hm
            omega
          · obtain ⟨i, hi⟩ := List.mem_iff_getElem?.1 hx
            exact (hlp i x hi).2.1
        · simp only [tyB]
          refine ⟨?_, fun x hx => ?_⟩
          · have := hm'.sl ((List.range len).map D) ((List.range (m - len)).map fun j => D (len + j))
            rw [List.length_map, List.length_range] at this
            show l.length ≤ _
            omega
          · obtain ⟨i, hi⟩ := List.mem_iff_getElem?.1 hx
            have hil : i < len := by have := (List.getElem?_eq_some_iff.1 hi).1; omega
            exact tyB_mono (hm'.slE _ _ (D i) (List.mem_map.2 ⟨i, List.mem_range.2 hil, rfl⟩)) e x ((hlp i x hi).2.2 m' hm')
    · rename_i ts gs hu
      obtain ⟨xs, n, rfl, rfl, hlen, hxl, hf⟩ := DataW.trod_struct hu hx
      obtain ⟨e, he, hok⟩ := open_fs (s := s) (cs := cs) (n := n) (fun t T cs x hc hx => open_ty hw hF d t T n cs x hc hx) gs.toList ts 0 h (fun f hfm => by
        obtain ⟨i, hi⟩ := List.mem_iff_getElem?.1 hfm
        rw [Array.getElem?_toList] at hi
        have h1 := hf i f hi
        have hlt : i < xs.length := by rw [hxl]; exact (Array.getElem?_eq_some_iff.1 hi).1
        rw [List.getElem?_eq_getElem hlt] at h1
        exact ⟨_, h1, fun m hm => hm.agg _ _ (List.mem_map.2 ⟨_, List.getElem_mem hlt, rfl⟩)⟩)
      refine ⟨e, ?_, by simp only [tyOk]; exact hok.1, fun m hm => by simp only [tyB]; exact hok.2 m hm⟩
      simp only [RT]
      simpa only [Nat.zero_add] using he
    · rename_i ts n E hu
      rw [Bool.and_eq_true] at h
      obtain ⟨hn, h⟩ := h
      have hn := Nat.eq_of_beq_eq_true hn
      obtain ⟨xs, m, rfl, rfl, hlen, hxl, hf⟩ := DataW.trod_array hu hx
      obtain ⟨e, he, hok⟩ := open_ar (s := s) (cs := cs) (n := m) (E := E) (fun t cs x hc hx => open_ty hw hF d t E m cs x hc hx) ts 0 h (fun i hi => by
        have h1 := hf i (by omega)
        have hlt : i < xs.length := by omega
        rw [List.getElem?_eq_getElem hlt] at h1
        rw [Nat.zero_add]
        exact ⟨_, h1, fun m hm => hm.agg _ _ (List.mem_map.2 ⟨_, List.getElem_mem hlt, rfl⟩)⟩)
      refine ⟨e, ?_, by simp only [tyOk]; exact hok.1, fun m hm => by simp only [tyB]; exact hok.2 m hm⟩
      simp only [RT]
      simpa only [Nat.zero_mul, Nat.zero_add] using he
    · cases h
theorem okWide_arr {P : Program} {w : World} {r : Reach} {base n : Nat} {T E : TypeId} {v : Value} (ht : P.underlying T = some (.array n E)) (h : Value.okWide P w r base T v) : ∃ cs, v = .agg cs ∧ cs.size = P.cellsOf T := by
  simp only [Value.okWide, ht] at h
  obtain ⟨cs, h1, h2, _⟩ := h
  exact ⟨cs, h1, h2⟩
theorem open_val {s : St} (hw : s.w = w) (hF : ∀ b, ¬ Own s b) {d : Nat} {t : Ty} {T : TypeId} {r : Reach} {b0 : Nat} {v : Value} {D : DataW H} {p : List MemPlace} (hc : chkG P d T t = true) (hv : Value.okWide P w r b0 T v) (h : DataW.Trod enc P w base spare held T v D p) : ∃ e : t.El, R s (avT t e) v ∧ tyO D t e := by
  obtain ⟨fuel, hx⟩ := h
  obtain ⟨e, he, hok⟩ := open_ty hw hF d t T fuel _ _ hc hx
  refine ⟨e, ?_, hok⟩
  cases d with
  | zero => simp [chkG] at hc
  | succ d =>
    simp only [chkG, Bool.and_eq_true] at hc
    obtain ⟨hz, hq, hc⟩ := hc
    split at hc
    · rename_i hu
      obtain ⟨b, rfl, _⟩ := open_bool hu hv ⟨fuel, hx⟩
      simp only [RT, Value.cells] at he
      simp only [avT, R]
      simpa using he
    · rename_i k k' hu
      have := of_decide_eq_true hc
      subst this
      obtain ⟨b, rfl, _⟩ := open_int hu hv ⟨fuel, hx⟩
      simp only [RT, Value.cells] at he
      simp only [avT, R]
      simpa using he
    · rename_i hu
      obtain ⟨b, rfl⟩ := okWide_string hu hv
      simp only [RT, Value.cells] at he
      simp only [avT, R]
      simpa using he
    · rename_i e' E hu
      obtain ⟨a, len, cap, rfl⟩ := okWide_slice hu hv
      simp only [RT, Value.cells] at he
      obtain ⟨a', cap', h0, hl, hr⟩ := he
      simp only [avT, R]
      refine ⟨a', cap', ?_, hl, hr⟩
      simpa using h0
    · rename_i ts gs hu
      obtain ⟨cs, rfl, hsz⟩ := okWide_struct hu hv
      obtain ⟨_, _, _, _, hlen, _, _⟩ := DataW.trod_struct hu hx
      simp only [RT] at he
      have hrc := RTs_RC ts e _ he
      obtain ⟨vs, h1, h2, h3⟩ := RC_vals hrc
      have hts : cs.size = Ty.sizes ts := by
        have := Nat.eq_of_beq_eq_true hz
        rw [hsz, this]
        simp only [Ty.size]
      have hvs : vs.length = cs.size := by
        rw [RL_vals h1, hts]; exact flats_length ts e
      have : vs = cs.toList := by
        apply List.ext_getElem?
        intro j
        by_cases hj : j < vs.length
        · have := h3 j _ (List.getElem?_eq_getElem hj)
          rw [List.getElem?_eq_getElem hj]
          exact this.symm
        · rw [List.getElem?_eq_none (by omega), List.getElem?_eq_none (by simp; omega)]
      subst this
      simp only [avT, R]
      exact ⟨cs.toList, by simp, h1, h2⟩
    · rename_i ts n E hu
      obtain ⟨cs, rfl, hsz⟩ := okWide_arr hu hv
      obtain ⟨_, _, _, _, hlen, _, _⟩ := DataW.trod_array hu hx
      simp only [RT] at he
      have hrc := RTs_RC ts e _ he
      obtain ⟨vs, h1, h2, h3⟩ := RC_vals hrc
      have hts : cs.size = Ty.sizes ts := by
        have := Nat.eq_of_beq_eq_true hz
        rw [hsz, this]
        simp only [Ty.size]
      have hvs : vs.length = cs.size := by
        rw [RL_vals h1, hts]; exact flats_length ts e
      have : vs = cs.toList := by
        apply List.ext_getElem?
        intro j
        by_cases hj : j < vs.length
        · have := h3 j _ (List.getElem?_eq_getElem hj)
          rw [List.getElem?_eq_getElem hj]
          exact this.symm
        · rw [List.getElem?_eq_none (by omega), List.getElem?_eq_none (by simp; omega)]
      subst this
      simp only [avT, R]
      exact ⟨cs.toList, by simp, h1, h2⟩
    · cases hc
theorem open_all {s : St} (hw : s.w = w) (hF : ∀ b, ¬ Own s b) {r : Reach} {b0 : Nat} : ∀ (Ts : List TypeId) (ts : List Ty) (vs : List Value) (ds : List (DataW H)) (ps : List MemPlace), chkAll P Ts ts = true → (∀ (j : Nat) T v, Ts[j]? = some T → vs[j]? = some v → Value.okWide P w r b0 T v) →
    DataW.TrodAll enc P w base spare held Ts vs ds ps → ∃ es : Ty.Els ts, RL s (avTs ts es) vs ∧ tyOks ts es ∧ ∀ (m : DataW H → Nat) (N : Nat), Meas m → (∀ d ∈ ds, m d ≤ N) → tyBs N ts es
  | [], [], vs, ds, ps, _, _, h => by
    obtain ⟨rfl, rfl, rfl⟩ := trodAll_nil h
    exact ⟨(), by simp only [avTs, RL], by simp only [tyOks], fun m N hm hd => by simp only [tyBs]⟩
  | [], _ :: _, _, _, _, h, _, _ => by simp [chkAll] at h
  | _ :: _, [], _, _, _, h, _, _ => by simp [chkAll] at h
  | T :: Ts, t :: ts, vs, ds, ps, hc, hv, h => by
    simp only [chkAll, Bool.and_eq_true] at hc
    obtain ⟨v, vs', D, ds', p, q, rfl, rfl, rfl, h1, h2⟩ := trodAll_cons h
    obtain ⟨e, he, hok⟩ := open_val hw hF hc.1 (hv 0 T v rfl rfl) h1
    obtain ⟨es, hes, hoks, hbs⟩ := open_all hw hF Ts ts vs' ds' q hc.2 (fun j T v h1 h2 => hv (j + 1) T v (by simpa using h1) (by simpa using h2)) h2
    exact ⟨(e, es), by simp only [avTs, RL]; exact ⟨v, vs', rfl, he, hes⟩, by simp only [tyOks]; exact ⟨hok.1, hoks⟩, fun m N hm hd => by simp only [tyBs]; exact ⟨tyB_mono (hd D (by simp)) t e (hok.2 m hm), hbs m N hm (fun d h => hd d (by simp [h]))⟩⟩

/-- A law that is reckoned to return true returns true, and leaves what there was. -/
theorem law_calls {C : Cx} (hm : P.follows .mixedOrders = true) (hT : TbOk P C.tb) (hD : SpecsOk P C.specs) {call : CallA} (hcall : CallOk P call) {g : FuncId} {fn : Func} (hf : FnOk P g fn) {ts : List Ty}
    (walk : ∀ es : Ty.Els ts, tyOks ts es → bodyA C call fn (avTs ts es) [] (fun v _ => v = .bool true))
    {Ts : List TypeId} (hc : chkAll P Ts ts = true) {r : Reach} {b0 : Nat} {args : Array Value} {ds : List (DataW H)} {ps : List MemPlace}
    (hv : ∀ (j : Nat) T v, Ts[j]? = some T → args.toList[j]? = some v → Value.okWide P w r b0 T v) (h : DataW.TrodAll enc P w base spare held Ts args.toList ds ps) :
    Calls P g args w fun e w' => e = .returned (.bool true) ∧ Below w.heap.size w w' := by
  let s : St := ⟨fun _ => .bool false, [], w, fun _ => False⟩
  have hI : ∀ b, ¬ OwnI s b := by
    rintro b ⟨id, o, h1, _⟩
    have h1 : ([] : List AObj)[id]? = some o := h1
    simp at h1
  have hF : ∀ b, ¬ Own s b := by
    rintro b (h1 | h1)
    · exact h1
    · exact hI b h1
  have hok : Ok s := ⟨fun id o h => by have h : ([] : List AObj)[id]? = some o := h; simp at h, fun i j o p b h => by have h : ([] : List AObj)[i]? = some o := h; simp at h, fun b h => h.elim, fun b h => absurd h (hI b)⟩
  obtain ⟨es, hes, hoks, hbs⟩ := open_all (s := s) rfl hF Ts ts args.toList ds ps hc hv h
  refine Calls.mono (bodyA_ok hm hT hD hcall hf (s := s) (walk es hoks) hok hes) ?_
  rintro e w' ⟨s', v, cr, rfl, rfl, hst, _, hR, rfl⟩
  simp only [R] at hR
  subst hR
  exact ⟨rfl, hst.os, hst.tape, hst.output, hst.size, fun b hb => (hst.keep b hb (hI b)).2⟩
end
end Av
namespace Go.Proofs.YtdbnohpolknbbaaGreat
open Av Bk

def spCL : DSpec
  | [.lst (.st [.str, .str, .bool, .int .i64]) l] => some (True, .tup [.int .i64 (clL l).1, .int .i64 (clL l).2])
  | _ => none
set_option maxRecDepth 100000 in
theorem fnOk_entsCL : FnOk Tryz.prog 70 Tryz.f70 := ⟨by rfl, by kernel_rfl, by
  show okCode _ _ = true ∧ drawsOk _ = true
  exact ⟨by kernel_rfl, by kernel_rfl⟩⟩
noncomputable def cx20 : Cx := ⟨tb, [], [(96, spCheck)]⟩
theorem specs20 : SpecsOk Tryz.prog cx20.specs := .cons entCheck_ok .nil
set_option maxRecDepth 100000 in
set_option maxHeartbeats 2000000 in
theorem entsCL_ok : SpecOk Tryz.prog 70 spCL := by
  refine spec_body (C := cx20) mixed tbOk specs20 (callN_ok (C := cx20) mixed tbOk specs20 FnsOk.nil 0) fnOk_entsCL ?_
  intro ys p r h hp
  unfold spCL at h
  split at h
  · rename_i l
    cases h
    conv => whnf
    repeat' first
      | ((first | refine auT ?_ | refine auF ?_ | with_reducible first | refine auKt ?_ | refine auKf ?_ | refine auNt ?_ | refine auNf ?_ | refine auEt ?_ | refine auEf ?_); conv => whnf)
      | ((with_reducible first | refine br_dec (fun h => ?_) (fun h => ?_) | refine br_ndec (fun h => ?_) (fun h => ?_) | refine br_ne (fun h => ?_) (fun h => ?_) | refine br_eq (fun h => ?_) (fun h => ?_)) <;> first | (exfalso; omega) | conv => whnf)
      | (refine br_intro (fun h => ?_) (fun h => ?_) <;> conv => whnf)
      | ((first | refine auNd ?_ | refine idx_nat (by omega) (fun x hx => ?_) | refine frz_auto ?_ | refine draw_plain ?_ | refine auIx (fun x hx => ?_)); conv => whnf)
    · rw [clL, if_pos (by omega)]
    · refine loop_inv [] [12] (fun vs h => ∃ i : Nat, vs = [.int .i64 (i : Int)] ∧ h = [] ∧ i ≤ l.length ∧ clL l = clGo (pvAt l i) (i : Int) (l.drop i)) (fun vs _ => match vs with | [.int _ k] => l.length - k.toNat | _ => 0) ?_
      refine ⟨⟨0, rfl, rfl, by omega, by rw [clL, if_neg (by omega)]; rfl⟩, ?_⟩
      rintro vs h' - ⟨i, rfl, rfl, hi, hc⟩
      conv => whnf
      repeat' first
        | ((first | refine auT ?_ | refine auF ?_ | with_reducible first | refine auKt ?_ | refine auKf ?_ | refine auNt ?_ | refine auNf ?_ | refine auEt ?_ | refine auEf ?_); conv => whnf)
        | ((with_reducible first | refine br_dec (fun h => ?_) (fun h => ?_) | refine br_ndec (fun h => ?_) (fun h => ?_) | refine br_ne (fun h => ?_) (fun h => ?_) | refine br_eq (fun h => ?_) (fun h => ?_)) <;> first | (exfalso; omega) | conv => whnf)
        | (refine br_intro (fun h => ?_) (fun h => ?_) <;> conv => whnf)
        | ((first | refine auNd ?_ | refine idx_nat (by omega) (fun x hx => ?_) | refine frz_auto ?_ | refine draw_plain ?_ | refine auIx (fun x hx => ?_)); conv => whnf)
      · rw [clL_err hc hx h]; rfl
      · rename_i y hy _ _
        rw [show ((i : Int) - 1).toNat = i - 1 by omega] at hx
        rw [clL_form hc hy (by assumption) (by omega) hx (bnt h)]
      · rename_i y hy _ _
        rw [show ((i : Int) - 1).toNat = i - 1 by omega] at hx
        refine back_intro (by conv => whnf) rfl ⟨i + 1, rfl, rfl, by omega, clL_next hc hy (by assumption) (.inr ⟨x, hx, bnf h⟩)⟩ ?_
        show l.length - ((i : Int) + 1).toNat < l.length - (i : Int).toNat
        omega
      · refine back_intro (by conv => whnf) rfl ⟨i + 1, rfl, rfl, by omega, clL_next hc hx (by assumption) (.inl (by omega))⟩ ?_
        show l.length - ((i : Int) + 1).toNat < l.length - (i : Int).toNat
        omega
      · rw [clL_end (by omega) hc (by omega)]
  · cases h
end Go.Proofs.YtdbnohpolknbbaaGreat
namespace Go.Proofs.YtdbnohpolknbbaaGreat
open Av Bk

abbrev runT : Ty := .st [.int .i64, .sl entT]
def rcL (x : runT.El) : Int × Int := if x.1 < 1 ∨ 1000000 < x.1 then (-1, 7) else clL x.2.1
def spRC : DSpec
  | [.agg [.int .i64 id, .lst (.st [.str, .str, .bool, .int .i64]) l]] => some (True, .tup [.int .i64 (rcL (id, l, ())).1, .int .i64 (rcL (id, l, ())).2])
  | _ => none
set_option maxRecDepth 100000 in
theorem fnOk_runsC : FnOk Tryz.prog 71 Tryz.f71 := ⟨by rfl, by kernel_rfl, by
  show okCode _ _ = true ∧ drawsOk _ = true
  exact ⟨by kernel_rfl, by kernel_rfl⟩⟩
noncomputable def cxb1 : Cx := ⟨tb, [], [(70, spCL)]⟩
theorem specsb1 : SpecsOk Tryz.prog cxb1.specs := .cons entsCL_ok .nil
set_option maxRecDepth 100000 in
theorem runsC_ok : SpecOk Tryz.prog 71 spRC := by
  refine spec_body (C := cxb1) mixed tbOk specsb1 (callN_ok (C := cxb1) mixed tbOk specsb1 FnsOk.nil 0) fnOk_runsC ?_
  intro ys p r h hp
  unfold spRC at h
  split at h
  · rename_i id l
    cases h
    conv => whnf
    repeat' first
      | ((first | refine auT ?_ | refine auF ?_ | with_reducible first | refine auKt ?_ | refine auKf ?_ | refine auNt ?_ | refine auNf ?_ | refine auEt ?_ | refine auEf ?_); conv => whnf)
      | ((with_reducible first | refine br_dec (fun h => ?_) (fun h => ?_) | refine br_ndec (fun h => ?_) (fun h => ?_) | refine br_ne (fun h => ?_) (fun h => ?_) | refine br_eq (fun h => ?_) (fun h => ?_)) <;> first | (exfalso; omega) | conv => whnf)
      | (refine br_intro (fun h => ?_) (fun h => ?_) <;> conv => whnf)
      | ((first | refine auNd ?_ | refine idx_nat (by omega) (fun x hx => ?_) | refine frz_auto ?_ | refine draw_plain ?_ | refine auIx (fun x hx => ?_)); conv => whnf)
    all_goals simp [rcL, *]
  · cases h
/-- The first fault of the runs of a view. -/
def vcGo (pre : List runT.El) : List runT.El → Int × Int
  | [] => (0, 0)
  | x :: l => if (rcL x).2 ≠ 0 then (pre.length, (rcL x).2) else if pre.any (fun y => y.1 == x.1) then (pre.length, 8) else vcGo (pre ++ [x]) l
def vcL (b : List entT.El) (rs : List runT.El) : Int × Int :=
  if 16 < b.length then (-1, 3) else if (clL b).2 ≠ 0 then (-1, (clL b).2) else if 24 < rs.length then (-1, 3) else vcGo [] rs
theorem vc_step {rs : List runT.El} {i : Nat} {x : runT.El} (hx : rs[i]? = some x) : vcGo (rs.take i) (rs.drop i) = if (rcL x).2 ≠ 0 then ((i : Int), (rcL x).2) else if (rs.take i).any (fun y => y.1 == x.1) then ((i : Int), 8) else vcGo (rs.take (i + 1)) (rs.drop (i + 1)) := by
  have hi := (List.getElem?_eq_some_iff.1 hx).1
  have he := (List.getElem?_eq_some_iff.1 hx).2
  rw [List.drop_eq_getElem_cons hi, he, vcGo, List.take_add_one, hx, List.length_take, Nat.min_eq_left (by omega)]
  rfl
theorem vc_end {rs : List runT.El} {i : Nat} (h : rs.length ≤ i) : vcGo (rs.take i) (rs.drop i) = (0, 0) := by
  rw [List.drop_eq_nil_of_le h]; rfl
theorem any_no {rs : List runT.El} {id : Int} (h : ∀ y ∈ rs, y.1 ≠ id) : rs.any (fun y => y.1 == id) = false := by
  rw [List.any_eq_false]
  intro y hy
  have := h y hy
  simpa using this
theorem any_yes {rs : List runT.El} {i j : Nat} {y : runT.El} {id : Int} (hj : j < i) (hy : rs[j]? = some y) (he : y.1 = id) : (rs.take i).any (fun y => y.1 == id) = true := by
  rw [List.any_eq_true]
  refine ⟨y, List.mem_iff_getElem?.2 ⟨j, by rw [List.getElem?_take, if_pos hj]; exact hy⟩, by simpa using he⟩
def spVC : DSpec
  | [.agg [.lst (.st [.str, .str, .bool, .int .i64]) b, .lst (.st [.int .i64, .sl (.st [.str, .str, .bool, .int .i64])]) rs]] => some (True, .tup [.int .i64 (vcL b rs).1, .int .i64 (vcL b rs).2])
  | _ => none
set_option maxRecDepth 100000 in
theorem fnOk_verC : FnOk Tryz.prog 58 Tryz.f58 := ⟨by rfl, by kernel_rfl, by
  show okCode _ _ = true ∧ drawsOk _ = true
  exact ⟨by kernel_rfl, by kernel_rfl⟩⟩
set_option maxRecDepth 100000 in
theorem fnOk_verC1 : FnOk Tryz.prog 72 Tryz.f72 := ⟨by rfl, by kernel_rfl, by
  show okCode _ _ = true ∧ drawsOk _ = true
  exact ⟨by kernel_rfl, by kernel_rfl⟩⟩
set_option maxRecDepth 100000 in
theorem fnOk_contRun : FnOk Tryz.prog 36 Tryz.f36 := ⟨by rfl, by kernel_rfl, by
  show okCode _ _ = true ∧ drawsOk _ = true
  exact ⟨by kernel_rfl, by kernel_rfl⟩⟩
set_option maxRecDepth 100000 in
theorem fnOk_idxRun : FnOk Tryz.prog 61 Tryz.f61 := ⟨by rfl, by kernel_rfl, by
  show okCode _ _ = true ∧ drawsOk _ = true
  exact ⟨by kernel_rfl, by kernel_rfl⟩⟩
noncomputable def cxb3 : Cx := ⟨tb, [(72, Tryz.f72), (36, Tryz.f36), (61, Tryz.f61)], [(70, spCL), (71, spRC)]⟩
theorem specsb3 : SpecsOk Tryz.prog cxb3.specs := .cons entsCL_ok (.cons runsC_ok .nil)
theorem fnsb3 : FnsOk Tryz.prog cxb3.fns := .cons fnOk_verC1 (.cons fnOk_contRun (.cons fnOk_idxRun .nil))
set_option pp.maxSteps 100000 in
set_option pp.deepTerms true in
set_option maxRecDepth 100000 in
theorem verC_ok : SpecOk Tryz.prog 58 spVC := by
  refine spec_body (C := cxb3) mixed tbOk specsb3 (callN_ok (C := cxb3) mixed tbOk specsb3 fnsb3 4) fnOk_verC ?_
  intro ys p r h hp
  unfold spVC at h
  split at h
  · rename_i b rs
    cases h
    conv => whnf
    repeat' first
      | ((first | refine auT ?_ | refine auF ?_ | with_reducible first | refine auKt ?_ | refine auKf ?_ | refine auNt ?_ | refine auNf ?_ | refine auEt ?_ | refine auEf ?_); conv => whnf)
      | ((with_reducible first | refine br_dec (fun h => ?_) (fun h => ?_) | refine br_ndec (fun h => ?_) (fun h => ?_) | refine br_ne (fun h => ?_) (fun h => ?_) | refine br_eq (fun h => ?_) (fun h => ?_)) <;> first | (exfalso; omega) | conv => whnf)
      | (refine br_intro (fun h => ?_) (fun h => ?_) <;> conv => whnf)
      | ((first | refine auNd ?_ | refine idx_nat (by omega) (fun x hx => ?_) | refine frz_auto ?_ | refine draw_plain ?_ | refine auIx (fun x hx => ?_)); conv => whnf)
    · rw [vcL, if_pos (by omega)]
    · rw [vcL, if_neg (by omega), if_pos (by assumption)]
    · rw [vcL, if_neg (by omega), if_neg (fun e => e (by assumption)), if_pos (by omega)]
    · refine loop_inv [] [30] (fun vs h => ∃ i : Nat, vs = [.int .i64 (i : Int)] ∧ h = [.cells 25 [.lst entT b, .lst runT rs]] ∧ i ≤ rs.length ∧ vcGo [] rs = vcGo (rs.take i) (rs.drop i)) (fun vs _ => match vs with | [.int _ k] => rs.length - k.toNat | _ => 0) ?_
      refine ⟨⟨0, rfl, rfl, by omega, rfl⟩, ?_⟩
      rintro vs h' - ⟨i, rfl, rfl, hi, hc⟩
      conv => whnf
      repeat' first
        | ((first | refine auT ?_ | refine auF ?_ | with_reducible first | refine auKt ?_ | refine auKf ?_ | refine auNt ?_ | refine auNf ?_ | refine auEt ?_ | refine auEf ?_); conv => whnf)
        | ((with_reducible first | refine br_dec (fun h => ?_) (fun h => ?_) | refine br_ndec (fun h => ?_) (fun h => ?_) | refine br_ne (fun h => ?_) (fun h => ?_) | refine br_eq (fun h => ?_) (fun h => ?_)) <;> first | (exfalso; omega) | conv => whnf)
        | (refine br_intro (fun h => ?_) (fun h => ?_) <;> conv => whnf)
        | ((first | refine auNd ?_ | refine idx_nat (by omega) (fun x hx => ?_) | refine frz_auto ?_ | refine draw_plain ?_ | refine auIx (fun x hx => ?_)); conv => whnf)
      · rw [vcL, if_neg (by omega), if_neg (fun e => e (by assumption)), if_neg (by omega), hc, vc_step hx, if_pos h]
      · refine loop_inv [] [8] (fun vs h => ∃ j : Nat, vs = [.int .i64 (j : Int)] ∧ h = [.cells 25 [.lst entT b, .lst runT rs], .cells 56 [.int .i64 x.1, .lst entT x.2.1]] ∧ j ≤ i ∧ ∀ y ∈ rs.take j, y.1 ≠ x.1) (fun vs _ => match vs with | [.int _ k] => rs.length - k.toNat | _ => 0) ?_
        refine ⟨⟨0, rfl, rfl, by omega, by simp⟩, ?_⟩
        rintro vs h' - ⟨j, rfl, rfl, hj, hall⟩
        conv => whnf
        repeat' first
          | ((first | refine auT ?_ | refine auF ?_ | with_reducible first | refine auKt ?_ | refine auKf ?_ | refine auNt ?_ | refine auNf ?_ | refine auEt ?_ | refine auEf ?_); conv => whnf)
          | ((with_reducible first | refine br_dec (fun h => ?_) (fun h => ?_) | refine br_ndec (fun h => ?_) (fun h => ?_) | refine br_ne (fun h => ?_) (fun h => ?_) | refine br_eq (fun h => ?_) (fun h => ?_)) <;> first | (exfalso; omega) | conv => whnf)
          | (refine br_intro (fun h => ?_) (fun h => ?_) <;> conv => whnf)
          | ((first | refine auNd ?_ | refine idx_nat (by omega) (fun x hx => ?_) | refine frz_auto ?_ | refine draw_plain ?_ | refine auIx (fun x hx => ?_)); conv => whnf)
        · rename_i x0 hx0 hr _ he
          have hy : (rs.take i)[j]? = some x := hx
          have hj : j < i := by
            have := (List.getElem?_eq_some_iff.1 hy).1
            rw [List.length_take] at this
            omega
          rw [List.getElem?_take, if_pos hj] at hy
          rw [vcL, if_neg (by omega), if_neg (fun e => e (by assumption)), if_neg (by omega), hc, vc_step hx0, if_neg (fun e => e hr), if_pos (any_yes hj hy he)]
        · have hy : (rs.take i)[j]? = some x := hx
          have hj : j < i := by
            have := (List.getElem?_eq_some_iff.1 hy).1
            rw [List.length_take] at this
            omega
          rw [List.getElem?_take, if_pos hj] at hy
          refine back_intro (by conv => whnf) rfl ⟨j + 1, rfl, rfl, by omega, take_succ_all hall hy h⟩ ?_
          show rs.length - ((j : Int) + 1).toNat < rs.length - (j : Int).toNat
          omega
        · have hl : ¬ (j : Int) < ((rs.take i).length : Int) := h
          rw [List.length_take] at hl
          have hji : j = i := by omega
          subst hji
          rw [vc_step hx, if_neg (fun e => e (by assumption)), if_neg (by rw [any_no hall]; decide)] at hc
          refine back_intro (by conv => whnf) rfl ⟨j + 1, rfl, rfl, by omega, hc⟩ ?_
          show rs.length - ((j : Int) + 1).toNat < rs.length - (j : Int).toNat
          omega
      · rw [vcL, if_neg (by omega), if_neg (fun e => e (by assumption)), if_neg (by omega), hc, vc_end (by omega)]
  · cases h
end Go.Proofs.YtdbnohpolknbbaaGreat
namespace Go.Proofs.YtdbnohpolknbbaaGreat
open Av Bk

def keyE (k : ByteArray) : Int := bif decide (32 < (k.size : Int)) then 3 else 0
def rgE (lo hi : ByteArray) (bd : Bool) : Int := if keyE lo ≠ 0 then keyE lo else if keyE hi ≠ 0 then keyE hi else if bd = false ∧ sEq hi ⟨#[]⟩ = false then 6 else 0
def spRg : DSpec
  | [.agg [.str lo, .str hi, .bool bd]] => some (True, .int .i64 (rgE lo hi bd))
  | _ => none
set_option maxRecDepth 100000 in
theorem fnOk_keysRg : FnOk Tryz.prog 73 Tryz.f73 := ⟨by rfl, by kernel_rfl, by
  show okCode _ _ = true ∧ drawsOk _ = true
  exact ⟨by kernel_rfl, by kernel_rfl⟩⟩
set_option maxRecDepth 100000 in
theorem fnOk_keysAll : FnOk Tryz.prog 97 Tryz.f97 := ⟨by rfl, by kernel_rfl, by
  show okCode _ _ = true ∧ drawsOk _ = true
  exact ⟨by kernel_rfl, by kernel_rfl⟩⟩
noncomputable def cxc1 : Cx := ⟨tb, [(97, Tryz.f97)], [(102, spKey)]⟩
theorem specsc1 : SpecsOk Tryz.prog cxc1.specs := .cons keysCheck_ok .nil
theorem fnsc1 : FnsOk Tryz.prog cxc1.fns := .cons fnOk_keysAll .nil
set_option maxRecDepth 100000 in
theorem keysRg_ok : SpecOk Tryz.prog 73 spRg := by
  refine spec_body (C := cxc1) mixed tbOk specsc1 (callN_ok (C := cxc1) mixed tbOk specsc1 fnsc1 3) fnOk_keysRg ?_
  intro ys p r h hp
  unfold spRg at h
  split at h
  · rename_i lo hi bd
    cases h
    conv => whnf
    repeat' first
      | ((first | refine auT ?_ | refine auF ?_ | with_reducible first | refine auKt ?_ | refine auKf ?_ | refine auNt ?_ | refine auNf ?_ | refine auEt ?_ | refine auEf ?_); conv => whnf)
      | ((with_reducible first | refine br_dec (fun h => ?_) (fun h => ?_) | refine br_ndec (fun h => ?_) (fun h => ?_) | refine br_ne (fun h => ?_) (fun h => ?_) | refine br_eq (fun h => ?_) (fun h => ?_)) <;> first | (exfalso; omega) | conv => whnf)
      | (refine br_intro (fun h => ?_) (fun h => ?_) <;> conv => whnf)
      | ((first | refine auNd ?_ | refine idx_nat (by omega) (fun x hx => ?_) | refine frz_auto ?_ | refine draw_plain ?_ | refine auIx (fun x hx => ?_)); conv => whnf)
    refine loop_turns 3 ?_
    conv => whnf
    repeat' first
      | ((first | refine auT ?_ | refine auF ?_ | with_reducible first | refine auKt ?_ | refine auKf ?_ | refine auNt ?_ | refine auNf ?_ | refine auEt ?_ | refine auEf ?_); conv => whnf)
      | ((with_reducible first | refine br_dec (fun h => ?_) (fun h => ?_) | refine br_ndec (fun h => ?_) (fun h => ?_) | refine br_ne (fun h => ?_) (fun h => ?_) | refine br_eq (fun h => ?_) (fun h => ?_)) <;> first | (exfalso; omega) | conv => whnf)
      | (refine br_intro (fun h => ?_) (fun h => ?_) <;> conv => whnf)
      | ((first | refine auNd ?_ | refine idx_nat (by omega) (fun x hx => ?_) | refine frz_auto ?_ | refine draw_plain ?_ | refine auIx (fun x hx => ?_)); conv => whnf)
    all_goals (refine congrArg (AV.int .i64) ?_; cases bd <;> simp_all [rgE, keyE])
  · cases h
end Go.Proofs.YtdbnohpolknbbaaGreat
namespace Go.Proofs.YtdbnohpolknbbaaGreat
open Av Bk

theorem sq_no {a : ByteArray} (h : (!sEq a a) = true) : False := by
  rw [sEq_refl] at h
  cases h
def hasB (lo hi : ByteArray) (bd : Bool) (k : ByteArray) : Bool := !sLt k lo && (!bd || sLt k hi)
def inE (lo hi : ByteArray) (bd : Bool) (k : ByteArray) : Int := if rgE lo hi bd ≠ 0 then rgE lo hi bd else keyE k
def spIn : DSpec
  | [.agg [.str lo, .str hi, .bool bd], .str k] => some (True, .tup [.bool (decide (inE lo hi bd k = 0) && hasB lo hi bd k), .int .i64 (inE lo hi bd k)])
  | _ => none
set_option maxRecDepth 100000 in
theorem fnOk_keysIn : FnOk Tryz.prog 77 Tryz.f77 := ⟨by rfl, by kernel_rfl, by
  show okCode _ _ = true ∧ drawsOk _ = true
  exact ⟨by kernel_rfl, by kernel_rfl⟩⟩
noncomputable def cxd1 : Cx := ⟨tb, [], [(73, spRg), (102, spKey)]⟩
theorem specsd1 : SpecsOk Tryz.prog cxd1.specs := .cons keysRg_ok (.cons keysCheck_ok .nil)
set_option maxRecDepth 100000 in
theorem keysIn_ok : SpecOk Tryz.prog 77 spIn := by
  refine spec_body (C := cxd1) mixed tbOk specsd1 (callN_ok (C := cxd1) mixed tbOk specsd1 FnsOk.nil 3) fnOk_keysIn ?_
  intro ys p r h hp
  unfold spIn at h
  split at h
  · rename_i lo hi bd k
    cases h
    conv => whnf
    repeat' first
      | ((first | refine auT ?_ | refine auF ?_ | with_reducible first | refine auKt ?_ | refine auKf ?_ | refine auNt ?_ | refine auNf ?_ | refine auEt ?_ | refine auEf ?_); conv => whnf)
      | ((with_reducible first | refine br_dec (fun h => ?_) (fun h => ?_) | refine br_ndec (fun h => ?_) (fun h => ?_) | refine br_ne (fun h => ?_) (fun h => ?_) | refine br_eq (fun h => ?_) (fun h => ?_)) <;> first | (exfalso; omega) | conv => whnf)
      | (refine br_intro (fun h => ?_) (fun h => ?_) <;> conv => whnf)
      | ((first | refine auNd ?_ | refine idx_nat (by omega) (fun x hx => ?_) | refine frz_auto ?_ | refine draw_plain ?_ | refine auIx (fun x hx => ?_)); conv => whnf)
    all_goals (cases bd <;> simp_all [inE, keyE, hasB])
  · cases h
def ordS (a b : ByteArray) : Int := if sLt a b = true then -1 else if sLt b a = true then 1 else 0
def spCmp : DSpec
  | [.str a, .str b] => some (True, .int .i64 (ordS a b))
  | _ => none
set_option maxRecDepth 100000 in
theorem fnOk_cmpStr : FnOk Tryz.prog 60 Tryz.f60 := ⟨by rfl, by kernel_rfl, by
  show okCode _ _ = true ∧ drawsOk _ = true
  exact ⟨by kernel_rfl, by kernel_rfl⟩⟩
set_option maxRecDepth 100000 in
theorem fnOk_isNaN : FnOk Tryz.prog 78 Tryz.f78 := ⟨by rfl, by kernel_rfl, by
  show okCode _ _ = true ∧ drawsOk _ = true
  exact ⟨by kernel_rfl, by kernel_rfl⟩⟩
noncomputable def cxd5 : Cx := ⟨tb, [(78, Tryz.f78)], []⟩
theorem fnsd5 : FnsOk Tryz.prog cxd5.fns := .cons fnOk_isNaN .nil
set_option maxRecDepth 100000 in
theorem cmpStr_ok : SpecOk Tryz.prog 60 spCmp := by
  refine spec_body (C := cxd5) mixed tbOk SpecsOk.nil (callN_ok (C := cxd5) mixed tbOk SpecsOk.nil fnsd5 3) fnOk_cmpStr ?_
  intro ys p r h hp
  unfold spCmp at h
  split at h
  · rename_i a b
    cases h
    conv => whnf
    repeat' first
      | ((first | refine auT ?_ | refine auF ?_ | with_reducible first | refine auKt ?_ | refine auKf ?_ | refine auNt ?_ | refine auNf ?_ | refine auEt ?_ | refine auEf ?_); conv => whnf)
      | ((with_reducible first | refine br_dec (fun h => ?_) (fun h => ?_) | refine br_ndec (fun h => ?_) (fun h => ?_) | refine br_ne (fun h => ?_) (fun h => ?_) | refine br_eq (fun h => ?_) (fun h => ?_)) <;> first | (exfalso; omega) | conv => whnf)
      | (refine br_intro (fun h => ?_) (fun h => ?_) <;> conv => whnf)
      | ((first | refine auNd ?_ | refine idx_nat (by omega) (fun x hx => ?_) | refine frz_auto ?_ | refine draw_plain ?_ | refine auIx (fun x hx => ?_)); conv => whnf)
    all_goals first
      | (exfalso; exact sq_no (by assumption))
      | (refine congrArg (AV.int .i64) ?_; simp only [ordS]; simp [*])
  · cases h
end Go.Proofs.YtdbnohpolknbbaaGreat
namespace Go.Proofs.YtdbnohpolknbbaaGreat
open Av Bk

theorem ordS_lt {a b : ByteArray} : ordS a b < 0 ↔ sLt a b = true := by
  unfold ordS
  split
  · rename_i h; simp [h]
  · rename_i h; split <;> simp [h]
theorem ordS_eq {a b : ByteArray} : ordS a b = 0 ↔ sEq a b = true := by
  unfold ordS
  split
  · rename_i h
    simp only [sEq_iff]
    exact ⟨fun e => by omega, fun e => absurd e (sLt_ne h)⟩
  · rename_i h
    split
    · rename_i h2
      simp only [sEq_iff]
      exact ⟨fun e => by omega, fun e => absurd e.symm (sLt_ne h2)⟩
    · rename_i h2
      simp only [sEq_iff, true_iff]
      exact sLt_ext (by simpa using h) (by simpa using h2)
abbrev goodL (l : List entT.El) : Prop := ascS l ∧ l.length ≤ 100000
theorem two_int {a b c d : Int} (h1 : a = c) (h2 : b = d) : [AV.int .i64 a, .int .i64 b] = [AV.int .i64 c, .int .i64 d] := by rw [h1, h2]
end Go.Proofs.YtdbnohpolknbbaaGreat
namespace Go.Proofs.YtdbnohpolknbbaaGreat
open Av Bk

/-! ### Views without a fault -/
theorem vcGo_zero : ∀ {rs pre : List runT.El}, (vcGo pre rs).2 = 0 → ∀ r ∈ rs, (clL r.2.1).2 = 0
  | [], _, _ => by simp
  | x :: l, pre, h => by
    rw [vcGo] at h
    split at h
    · rename_i he; exact absurd h he
    · rename_i he
      split at h
      · cases h
      · intro r hr
        rcases List.mem_cons.1 hr with rfl | hr
        · have he : (rcL r).2 = 0 := by simpa using he
          unfold rcL at he
          split at he
          · cases he
          · exact he
        · exact vcGo_zero h r hr
structure GoodV (b : List entT.El) (rs : List runT.El) : Prop where
  lb : b.length ≤ 16
  gb : (clL b).2 = 0
  lr : rs.length ≤ 24
  gr : ∀ r ∈ rs, (clL r.2.1).2 = 0
theorem vcL_zero {b : List entT.El} {rs : List runT.El} (h : (vcL b rs).2 = 0) : GoodV b rs := by
  unfold vcL at h
  split at h
  · cases h
  · split at h
    · rename_i he; exact absurd h he
    · rename_i he
      split at h
      · cases h
      · exact ⟨by omega, by simpa using he, by omega, vcGo_zero h⟩
theorem goodL_of {l : List entT.El} (h : (clL l).2 = 0) : goodL l := ⟨(clL_zero h).2.2, by have := (clL_zero h).1; omega⟩
/-! ### Parts -/
abbrev partT : Ty := .ifc [161, 162] [.sl entT, runT]
def partsA (b : List entT.El) (rs : List runT.El) : List partT.El := .inl b :: rs.map (fun r => .inr (.inl r))
def partsB (b : List entT.El) (rs : List runT.El) : List (List entT.El) := b :: rs.map (fun r => r.2.1)
theorem partsA_snoc (b : List entT.El) (rs : List runT.El) (r : runT.El) : partsA b (rs ++ [r]) = partsA b rs ++ [.inr (.inl r)] := by simp [partsA]
theorem partsB_snoc (b : List entT.El) (rs : List runT.El) (r : runT.El) : partsB b (rs ++ [r]) = partsB b rs ++ [r.2.1] := by simp [partsB]
theorem take_snoc1 {α : Type} {l : List α} {i : Nat} {x : α} (h : l[i]? = some x) : l.take (i + 1) = l.take i ++ [x] := by rw [List.take_add_one, h]; rfl
theorem heap_n2 {a b : AObj} {T : TypeId} {t : Ty} {g : Nat} {l m : List t.El} (hl : l = m) : [a, b, .arr T t l false g] = [a, b, AObj.arr T t m false g] := by rw [hl]
def spPA : DSpec
  | [.agg [.lst (.st [.str, .str, .bool, .int .i64]) b, .lst (.st [.int .i64, .sl (.st [.str, .str, .bool, .int .i64])]) rs]] => some (rs.length ≤ 100000, .lst partT (partsA b rs))
  | _ => none
def spPB : DSpec
  | [.agg [.lst (.st [.str, .str, .bool, .int .i64]) b, .lst (.st [.int .i64, .sl (.st [.str, .str, .bool, .int .i64])]) rs]] => some (rs.length ≤ 100000, .lst (.sl entT) (partsB b rs))
  | _ => none
set_option maxRecDepth 100000 in
theorem fnOk_lkParts : FnOk Tryz.prog 99 Tryz.f99 := ⟨by rfl, by kernel_rfl, by
  show okCode _ _ = true ∧ drawsOk _ = true
  exact ⟨by kernel_rfl, by kernel_rfl⟩⟩
set_option maxRecDepth 100000 in
theorem fnOk_rfParts : FnOk Tryz.prog 33 Tryz.f33 := ⟨by rfl, by kernel_rfl, by
  show okCode _ _ = true ∧ drawsOk _ = true
  exact ⟨by kernel_rfl, by kernel_rfl⟩⟩
set_option maxRecDepth 100000 in
set_option maxHeartbeats 2000000 in
theorem lkParts_ok : SpecOk Tryz.prog 99 spPA := by
  refine spec_body (C := cx0) mixed tbOk SpecsOk.nil (callN_ok (C := cx0) mixed tbOk SpecsOk.nil FnsOk.nil 0) fnOk_lkParts ?_
  intro ys p r h hp
  unfold spPA at h
  split at h
  · rename_i b rs
    cases h
    conv => whnf
    repeat' first
      | ((first | refine auT ?_ | refine auF ?_ | with_reducible first | refine auKt ?_ | refine auKf ?_ | refine auNt ?_ | refine auNf ?_ | refine auEt ?_ | refine auEf ?_); conv => whnf)
      | ((with_reducible first | refine br_dec (fun h => ?_) (fun h => ?_) | refine br_ndec (fun h => ?_) (fun h => ?_) | refine br_ne (fun h => ?_) (fun h => ?_) | refine br_eq (fun h => ?_) (fun h => ?_)) <;> first | (exfalso; omega) | conv => whnf)
      | (refine br_intro (fun h => ?_) (fun h => ?_) <;> conv => whnf)
      | ((first | refine auNd ?_ | refine idx_nat (by omega) (fun x hx => ?_) | refine frz_auto ?_ | refine draw_plain ?_ | refine auIx (fun x hx => ?_)); conv => whnf)
    refine loop_inv [] [3, 13] (fun vs h => ∃ (i g : Nat), vs = [.own 2 g (i + 1), .int .i64 (i : Int)] ∧ h = [.cells 25 [.lst entT b, .lst runT rs], .arr 147 partT [] false 0, .arr 147 partT (partsA b (rs.take i)) false g] ∧ i ≤ rs.length) (fun vs _ => match vs with | [_, .int _ k] => rs.length - k.toNat | _ => 0) ?_
    conv => whnf
    refine ⟨⟨0, 0, rfl, rfl, Nat.zero_le _⟩, ?_⟩
    rintro vs h' - ⟨i, g, rfl, rfl, hi⟩
    have hpl : (partsA b (rs.take i)).length = i + 1 := by simp [partsA]; omega
    conv => whnf
    repeat' first
      | ((first | refine auT ?_ | refine auF ?_ | with_reducible first | refine auKt ?_ | refine auKf ?_ | refine auNt ?_ | refine auNf ?_ | refine auEt ?_ | refine auEf ?_); conv => whnf)
      | ((with_reducible first | refine br_dec (fun h => ?_) (fun h => ?_) | refine br_ndec (fun h => ?_) (fun h => ?_) | refine br_ne (fun h => ?_) (fun h => ?_) | refine br_eq (fun h => ?_) (fun h => ?_)) <;> first | (exfalso; omega) | conv => whnf)
      | (refine br_intro (fun h => ?_) (fun h => ?_) <;> conv => whnf)
      | ((first | refine auNd ?_ | refine idx_nat (by omega) (fun x hx => ?_) | refine frz_auto ?_ | refine draw_plain ?_ | refine auIx (fun x hx => ?_)); conv => whnf)
    · refine back_intro (by conv => whnf) rfl ⟨i + 1, g + 1, rfl, heap_n2 ?_, by omega⟩ ?_
      · rw [take_snoc1 hx, partsA_snoc]
        simp only [cast_self]
        rw [List.take_of_length_le (by omega)]
        rfl
      · show rs.length - ((i : Int) + 1).toNat < rs.length - (i : Int).toNat
        omega
    · have e : i = rs.length := by omega
      rw [List.take_of_length_le (l := partsA b (rs.take i)) (by omega), e, List.take_length]
  · cases h
set_option maxRecDepth 100000 in
set_option maxHeartbeats 2000000 in
theorem rfParts_ok : SpecOk Tryz.prog 33 spPB := by
  refine spec_body (C := cx0) mixed tbOk SpecsOk.nil (callN_ok (C := cx0) mixed tbOk SpecsOk.nil FnsOk.nil 0) fnOk_rfParts ?_
  intro ys p r h hp
  unfold spPB at h
  split at h
  · rename_i b rs
    cases h
    conv => whnf
    repeat' first
      | ((first | refine auT ?_ | refine auF ?_ | with_reducible first | refine auKt ?_ | refine auKf ?_ | refine auNt ?_ | refine auNf ?_ | refine auEt ?_ | refine auEf ?_); conv => whnf)
      | ((with_reducible first | refine br_dec (fun h => ?_) (fun h => ?_) | refine br_ndec (fun h => ?_) (fun h => ?_) | refine br_ne (fun h => ?_) (fun h => ?_) | refine br_eq (fun h => ?_) (fun h => ?_)) <;> first | (exfalso; omega) | conv => whnf)
      | (refine br_intro (fun h => ?_) (fun h => ?_) <;> conv => whnf)
      | ((first | refine auNd ?_ | refine idx_nat (by omega) (fun x hx => ?_) | refine frz_auto ?_ | refine draw_plain ?_ | refine auIx (fun x hx => ?_)); conv => whnf)
    refine loop_inv [] [3, 4] (fun vs h => ∃ (i g : Nat), vs = [.own 2 g (i + 1), .int .i64 (i : Int)] ∧ h = [.cells 25 [.lst entT b, .lst runT rs], .arr 22 (.sl entT) [] false 0, .arr 22 (.sl entT) (partsB b (rs.take i)) false g] ∧ i ≤ rs.length) (fun vs _ => match vs with | [_, .int _ k] => rs.length - k.toNat | _ => 0) ?_
    conv => whnf
    refine ⟨⟨0, 0, rfl, rfl, Nat.zero_le _⟩, ?_⟩
    rintro vs h' - ⟨i, g, rfl, rfl, hi⟩
    have hpl : (partsB b (rs.take i)).length = i + 1 := by simp [partsB]; omega
    conv => whnf
    repeat' first
      | ((first | refine auT ?_ | refine auF ?_ | with_reducible first | refine auKt ?_ | refine auKf ?_ | refine auNt ?_ | refine auNf ?_ | refine auEt ?_ | refine auEf ?_); conv => whnf)
      | ((with_reducible first | refine br_dec (fun h => ?_) (fun h => ?_) | refine br_ndec (fun h => ?_) (fun h => ?_) | refine br_ne (fun h => ?_) (fun h => ?_) | refine br_eq (fun h => ?_) (fun h => ?_)) <;> first | (exfalso; omega) | conv => whnf)
      | (refine br_intro (fun h => ?_) (fun h => ?_) <;> conv => whnf)
      | ((first | refine auNd ?_ | refine idx_nat (by omega) (fun x hx => ?_) | refine frz_auto ?_ | refine draw_plain ?_ | refine auIx (fun x hx => ?_)); conv => whnf)
    · refine back_intro (by conv => whnf) rfl ⟨i + 1, g + 1, rfl, heap_n2 ?_, by omega⟩ ?_
      · rw [take_snoc1 hx, partsB_snoc]
        simp only [cast_self]
        rw [List.take_of_length_le (by omega)]
        rfl
      · show rs.length - ((i : Int) + 1).toNat < rs.length - (i : Int).toNat
        omega
    · have e : i = rs.length := by omega
      rw [List.take_of_length_le (l := partsB b (rs.take i)) (by omega), e, List.take_length]
  · cases h
end Go.Proofs.YtdbnohpolknbbaaGreat
