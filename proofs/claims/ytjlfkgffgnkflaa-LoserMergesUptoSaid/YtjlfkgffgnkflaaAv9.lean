/-
  An abstract reading of values and memory: numbers, strings, comparisons, conversions.
-/
import Derived.Test.YtjlfkgffgnkflaaAv8
namespace Av
open Go
theorem wrap_in {k : IntKind} {n : Int} (h : inR k n) : k.wrap n = n := by
  cases k <;> simp only [inR] at h
  · exact IntWalk.i8_in n h
  · exact IntWalk.i16_in n h
  · exact IntWalk.i32_in n h
  · exact IntWalk.i64_in n h
  · exact IntWalk.u8_in n h
  · exact IntWalk.u16_in n h
  · exact IntWalk.u32_in n h
  · exact IntWalk.u64_in n h
theorem sEq_iff {a b : ByteArray} : sEq a b = true ↔ a = b := by
  unfold sEq
  rw [beq_iff_eq, Array.toList_inj]
  exact ⟨fun h => by cases a; cases b; simp_all, fun h => by rw [h]⟩
theorem sEq_model (a b : ByteArray) : (a.toList == b.toList) = sEq a b := by
  rw [ByteArray.toList_eq, ByteArray.toList_eq]; rfl
theorem sLt_model (a b : ByteArray) : Op.bytesLess a.toList b.toList = sLt a b := by
  rw [ByteArray.toList_eq, ByteArray.toList_eq]; rfl
theorem bytesLess_tri : ∀ (x y : List UInt8), (Op.bytesLess x y || x == y) = !Op.bytesLess y x
  | [], [] => by simp [Op.bytesLess]
  | [], b :: y => by simp [Op.bytesLess]
  | a :: x, [] => by simp [Op.bytesLess]
  | a :: x, b :: y => by
    have ih := bytesLess_tri x y
    simp only [Op.bytesLess]
    by_cases h1 : a < b
    · have h2 : ¬ b < a := by rw [UInt8.lt_iff_toNat_lt] at *; omega
      have h3 : (b == a) = false := by rw [beq_eq_false_iff_ne]; rintro rfl; rw [UInt8.lt_iff_toNat_lt] at h1; omega
      simp [h1, h2, h3]
    · by_cases h2 : b < a
      · have h3 : (a == b) = false := by rw [beq_eq_false_iff_ne]; rintro rfl; rw [UInt8.lt_iff_toNat_lt] at h2; omega
        simp [h1, h2, h3]
      · have h3 : a = b := by rw [UInt8.lt_iff_toNat_lt] at *; exact UInt8.toNat_inj.1 (by omega)
        subst h3
        simp [h1]
        rw [← ih]
mutual
theorem RT_cut {s : St} : ∀ (t : Ty) (x : t.El) (c : Nat → Option Value) (n : Nat), t.size ≤ n → RT s t x c → RT s t x (fun j => if j < n then c j else none)
  | .bool, _, _, n, hn, h => by simp only [Ty.size] at hn; simp only [RT] at h ⊢; rw [if_pos (by omega)]; exact h
  | .int _, _, _, n, hn, h => by simp only [Ty.size] at hn; simp only [RT] at h ⊢; rw [if_pos (by omega)]; exact h
  | .str, _, _, n, hn, h => by simp only [Ty.size] at hn; simp only [RT] at h ⊢; rw [if_pos (by omega)]; exact h
  | .sl _, _, _, n, hn, h => by simp only [Ty.size] at hn; simp only [RT] at h ⊢; rw [if_pos (by omega)]; exact h
  | .st fs, x, c, n, hn, h => by simp only [Ty.size] at hn; simp only [RT] at h ⊢; exact RTs_cut fs x c n hn h
theorem RTs_cut {s : St} : ∀ (ts : List Ty) (x : Ty.Els ts) (c : Nat → Option Value) (n : Nat), Ty.sizes ts ≤ n → RTs s ts x c → RTs s ts x (fun j => if j < n then c j else none)
  | [], _, _, _, _, _ => by simp only [RTs]
  | t :: ts, x, c, n, hn, h => by
    simp only [Ty.sizes] at hn
    simp only [RTs] at h ⊢
    refine ⟨RT_cut t x.1 c n (by omega) h.1, RTs_mono (Step.refl s) _ _ _ _ ?_ (RTs_cut ts x.2 _ (n - t.size) (by omega) h.2)⟩
    intro j v hv
    split at hv
    · rw [if_pos (by omega)]; exact hv
    · cases hv
end
section
variable {P : Program} {tb : Tb}

/-! ### Equality of data -/
/-- The value of a datum of a type. -/
def VT (s : St) : (t : Ty) → t.El → Value → Prop
  | .st fs, x, v => ∃ cs, v = .agg cs ∧ RTs s fs x (fun j => cs[j]?)
  | .bool, x, v => v = .bool x
  | .int k, x, v => v = .int k x
  | .str, x, v => v = .string x
  | .sl e, l, v => RLst s e l v
theorem eqTs_cons (t : Ty) (ts : List Ty) (a b : Ty.Els (t :: ts)) : eqTs (t :: ts) a b = (eqT t a.1 b.1 && eqTs ts a.2 b.2) := by
  cases ts with
  | nil => simp [eqTs]
  | cons u us => simp [eqTs]
theorem chk_bool {d : Nat} {T : TypeId} (h : chkC P (d + 1) T .bool = true) : P.underlying T = some .bool := by
  unfold chkC at h; split at h <;> simp_all
theorem chk_int {d : Nat} {T : TypeId} {k : IntKind} (h : chkC P (d + 1) T (.int k) = true) : P.underlying T = some (.int k) := by
  unfold chkC at h; split at h <;> simp_all
theorem chk_str {d : Nat} {T : TypeId} (h : chkC P (d + 1) T .str = true) : P.underlying T = some .string := by
  unfold chkC at h; split at h <;> simp_all
theorem chk_sl {d : Nat} {T : TypeId} {e : Ty} (h : chkC P (d + 1) T (.sl e) = true) : ∃ E, P.underlying T = some (.slice E) ∧ chkC P d E e = true := by
  unfold chkC at h; split at h <;> simp_all
theorem chk_st {d : Nat} {T : TypeId} {ts : List Ty} (h : chkC P (d + 1) T (.st ts) = true) : ∃ gs, P.underlying T = some (.struct gs) ∧ P.stoodInHeld T = false ∧ P.eqGuardType P.depth T = false ∧ chkFs P (chkC P d) gs.toList ts 0 = true := by
  unfold chkC at h; split at h <;> simp_all
theorem info_of_und {T : TypeId} {d : TypeDesc} (h : P.underlying T = some d) : ∃ i, P.info? T = some i := by
  cases hi : P.info? T with
  | some i => exact ⟨i, rfl⟩
  | none => simp [Program.underlying, hi] at h
theorem agg_run {T : TypeId} {d : TypeDesc} (h : P.underlying T = some d) (w : World) : (isAgg T).run P w = .ok d.isRow w := by
  unfold isAgg
  rw [Sem.run_bind, run_underlying h w]
  cases d <;> rfl
theorem part_code {s : St} {d : Nat} {T : TypeId} : ∀ {t : Ty} (_h : chkC P (d + 1) T t = true) (_hsz : P.cellsOf T = t.size) {xs : Array Value} {off : Nat} {x : t.El} (_hx : RT s t x (fun j => xs[off + j]?)),
    ∃ v, (part T xs off).run P s.w = .ok v s.w ∧ VT s t x v
  | .st fs, h, hsz, xs, off, x, hx => by
    obtain ⟨gs, hu, _⟩ := chk_st h
    obtain ⟨i, hi⟩ := info_of_und hu
    have hs : (Go.sizeOf T).run P s.w = .ok (Ty.st fs).size s.w := by
      simp only [Program.cellsOf, hi] at hsz
      simp [Go.sizeOf, typeInfo, hi]
      simpa using hsz
    refine ⟨.agg (xs.extract off (off + (Ty.st fs).size)), ?_, ?_⟩
    · unfold part
      rw [Sem.run_bind, agg_run hu s.w]
      simp [TypeDesc.isRow, hs]
    · simp only [VT]
      refine ⟨_, rfl, ?_⟩
      simp only [RT] at hx
      refine RTs_mono (Step.refl s) _ _ _ _ ?_ (RTs_cut fs x _ (Ty.st fs).size (by simp only [Ty.size]; exact Nat.le_refl _) hx)
      intro j v hv
      split at hv
      · rename_i hj
        rw [Array.getElem?_extract, if_pos (by
          have := (Array.getElem?_eq_some_iff.1 hv).1
          omega)]
        exact hv
      · cases hv
  | .bool, h, _, xs, off, x, hx => by
    simp only [RT, Nat.add_zero] at hx
    exact ⟨.bool x, by unfold part; rw [Sem.run_bind, agg_run (chk_bool h) s.w]; simp [TypeDesc.isRow, hx], by simp only [VT]⟩
  | .int k, h, _, xs, off, x, hx => by
    simp only [RT, Nat.add_zero] at hx
    exact ⟨.int k x, by unfold part; rw [Sem.run_bind, agg_run (chk_int h) s.w]; simp [TypeDesc.isRow, hx], by simp only [VT]⟩
  | .str, h, _, xs, off, x, hx => by
    simp only [RT, Nat.add_zero] at hx
    exact ⟨.string x, by unfold part; rw [Sem.run_bind, agg_run (chk_str h) s.w]; simp [TypeDesc.isRow, hx], by simp only [VT]⟩
  | .sl e, h, _, xs, off, x, hx => by
    obtain ⟨E, hu, _⟩ := chk_sl h
    simp only [RT, Nat.add_zero] at hx
    obtain ⟨a, cap, h0, h1, h2⟩ := hx
    exact ⟨_, by unfold part; rw [Sem.run_bind, agg_run hu s.w]; simp only [TypeDesc.isRow, Result.andThen_ok, Bool.false_eq_true, if_false, h0]; rfl, by simp only [VT]; exact ⟨a, cap, rfl, h1, h2⟩⟩

theorem eqFields_run {s : St} {d m : Nat} (ih : ∀ (T : TypeId) (t : Ty) (x y : t.El) (cx cy : Value), chkC P (d + 1) T t = true → t.flatEq = true → VT s t x cx → VT s t y cy → (Op.equalIn m T cx cy).run P s.w = .ok (eqT t x y) s.w) :
    ∀ (fs : List Field) (ts : List Ty) (off : Nat) (x y : Ty.Els ts) (xs ys : Array Value), chkFs P (chkC P (d + 1)) fs ts off = true → Ty.flatEqs ts = true → RTs s ts x (fun j => xs[off + j]?) → RTs s ts y (fun j => ys[off + j]?) →
      (Op.eqFields m xs ys fs).run P s.w = .ok (eqTs ts x y) s.w
  | [], [], off, x, y, xs, ys, _, _, _, _ => by simp [Op.eqFields, eqTs]
  | [], _ :: _, off, x, y, xs, ys, h, _, _, _ => by simp [chkFs] at h
  | _ :: _, [], off, x, y, xs, ys, h, _, _, _ => by simp [chkFs] at h
  | f :: fs, t :: ts, off, x, y, xs, ys, h, hf, hx, hy => by
    simp only [chkFs, Bool.and_eq_true] at h
    obtain ⟨⟨⟨⟨h1, h2⟩, h3⟩, h4⟩, h5⟩ := h
    have h2 := Nat.eq_of_beq_eq_true h2
    have h4 := Nat.eq_of_beq_eq_true h4
    simp only [Ty.flatEqs, Bool.and_eq_true] at hf
    simp only [RTs] at hx hy
    obtain ⟨vx, ex, hvx⟩ := part_code (s := s) h3 h4 (xs := xs) (off := off) hx.1
    obtain ⟨vy, ey, hvy⟩ := part_code (s := s) h3 h4 (xs := ys) (off := off) hy.1
    have hq := ih f.type t x.1 y.1 vx vy h3 hf.1 hvx hvy
    have assoc : ∀ (zs : Array Value), (fun j => zs[off + (t.size + j)]?) = (fun j => zs[off + t.size + j]?) := fun zs => by funext j; rw [Nat.add_assoc]
    have hx2 := hx.2
    have hy2 := hy.2
    simp only [assoc] at hx2 hy2
    have hrest := eqFields_run ih fs ts (off + t.size) x.2 y.2 xs ys h5 hf.2 hx2 hy2
    rw [eqTs_cons]
    have h1' : f.name ≠ "_" := by simpa using h1
    simp only [Op.eqFields, if_pos h1', Sem.run_bind, h2, ex, ey, hq, Result.andThen_ok]
    cases eqT t x.1 y.1
    · simp
    · simp [hrest]
theorem equalIn_run {s : St} : ∀ (d m : Nat) (T : TypeId) (t : Ty) (x y : t.El) (cx cy : Value), d ≤ m → chkC P d T t = true → t.flatEq = true → VT s t x cx → VT s t y cy → (Op.equalIn m T cx cy).run P s.w = .ok (eqT t x y) s.w
  | 0, _, _, _, _, _, _, _, _, h, _, _, _ => by simp [chkC] at h
  | d + 1, 0, _, _, _, _, _, _, hm, _, _, _, _ => by omega
  | d + 1, m + 1, T, .bool, x, y, cx, cy, hm, h, _, hx, hy => by
    simp only [VT] at hx hy
    subst hx hy
    rw [run_equalIn_bool' s.w m T x y (chk_bool h)]
    simp only [eqT]
  | d + 1, m + 1, T, .int k, x, y, cx, cy, hm, h, _, hx, hy => by
    simp only [VT] at hx hy
    subst hx hy
    rw [run_equalIn_int s.w m T k k x y (chk_int h)]
    simp only [eqT]
  | d + 1, m + 1, T, .str, x, y, cx, cy, hm, h, _, hx, hy => by
    simp only [VT] at hx hy
    subst hx hy
    rw [run_equalIn_string s.w m T x y (chk_str h)]
    simp only [eqT]
    exact congrArg (fun b => Result.ok b s.w) (sEq_model x y)
  | d + 1, m + 1, T, .sl e, x, y, cx, cy, hm, h, hf, hx, hy => by simp [Ty.flatEq] at hf
  | d + 1, m + 1, T, .st fs, x, y, cx, cy, hm, h, hf, hx, hy => by
    obtain ⟨gs, hu, h1, _, h2⟩ := chk_st h
    simp only [VT] at hx hy
    obtain ⟨xs, rfl, hx⟩ := hx
    obtain ⟨ys, rfl, hy⟩ := hy
    simp only [Ty.flatEq] at hf
    have hfs : P.fieldsOf T = gs := by simp [Program.fieldsOf, hu]
    rw [run_equalIn_struct s.w m T xs ys (by rw [hfs]; exact hu) h1, hfs]
    simp only [eqT]
    cases d with
    | zero =>
      cases fs with
      | nil => cases hg : gs.toList <;> simp_all [chkFs, Op.eqFields, eqTs]
      | cons t ts => cases hg : gs.toList <;> simp_all [chkFs, chkC]
    | succ d =>
      exact eqFields_run (fun T t x y cx cy h hf hx hy => equalIn_run (d + 1) m T t x y cx cy (by omega) h hf hx hy) gs.toList fs 0 x y xs ys h2 hf (by simpa using hx) (by simpa using hy)
end
end Av
