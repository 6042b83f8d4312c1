/-
  An abstract reading of values and memory: calls of functions whose results are known; any operation.
-/
import Derived.Test.YtkjoofinfhdcaaaAvf
import Derived.RangeFuncSeq
namespace Av
open Go

/-! ### From one holder of memory to another -/
mutual
theorem RT_pure {s s2 : St} (hw : s2.w = s.w) (hro : ∀ b, ¬ Own s b → ¬ Own s2 b) : ∀ (t : Ty) (x : t.El) (c : Nat → Option Value), RT s t x c → RT s2 t x c
 | .bool, b, c, h => by simpa only [RT] using h
 | .int _, b, c, h => by simpa only [RT] using h
 | .str, b, c, h => by simpa only [RT] using h
 | .raw _, b, c, h => by simpa only [RT] using h
 | .sl e, l, c, h => by
  simp only [RT] at h ⊢
  obtain ⟨a, cap, h0, h1, h2⟩ := h
  refine ⟨a, cap, h0, h1, fun hne => ?_⟩
  obtain ⟨b, o, ha, hlt, hb, hx⟩ := h2 hne
  refine ⟨b, o, ha, by rw [hw]; exact hlt, hro b hb, fun i x hi => ?_⟩
  rw [hw]
  exact RT_pure hw hro e x _ (hx i x hi)
 | .st fs, x, c, h => by simp only [RT] at h ⊢; exact RTs_pure hw hro fs x c h
 | .ifc Ts ts, x, c, h => by
  simp only [RT] at h ⊢
  obtain ⟨v, h0, h1⟩ := h
  exact ⟨v, h0, RA_pure hw hro ts Ts x v h1⟩
theorem RTs_pure {s s2 : St} (hw : s2.w = s.w) (hro : ∀ b, ¬ Own s b → ¬ Own s2 b) : ∀ (ts : List Ty) (x : Ty.Els ts) (c : Nat → Option Value), RTs s ts x c → RTs s2 ts x c
 | [], _, _, _ => by simp only [RTs]
 | t :: ts, x, c, h => by
  simp only [RTs] at h ⊢
  exact ⟨RT_pure hw hro t x.1 c h.1, RTs_pure hw hro ts x.2 _ h.2⟩
theorem RA_pure {s s2 : St} (hw : s2.w = s.w) (hro : ∀ b, ¬ Own s b → ¬ Own s2 b) : ∀ (ts : List Ty) (Ts : List TypeId) (x : Ty.Alts ts Ts) (v : Value), RA s ts Ts x v → RA s2 ts Ts x v
 | [], _, x, _, _ => nomatch x
 | _ :: _, [], x, _, _ => nomatch x
 | t :: ts, T :: Ts, .inl y, v, h => by
  simp only [RA] at h ⊢
  obtain ⟨w, h0, h1⟩ := h
  exact ⟨w, h0, RV_pure hw hro t y w h1⟩
 | t :: ts, T :: Ts, .inr x, v, h => by
  simp only [RA] at h ⊢
  exact RA_pure hw hro ts Ts x v h
theorem RV_pure {s s2 : St} (hw : s2.w = s.w) (hro : ∀ b, ¬ Own s b → ¬ Own s2 b) : ∀ (t : Ty) (x : t.El) (v : Value), RV s t x v → RV s2 t x v
 | .bool, _, _, h => by simp only [RV] at h ⊢; exact h
 | .int _, _, _, h => by simp only [RV] at h ⊢; exact h
 | .str, _, _, h => by simp only [RV] at h ⊢; exact h
 | .raw _, _, _, h => by simp only [RV] at h ⊢; exact h
 | .sl e, l, v, h => by
  simp only [RV] at h ⊢
  obtain ⟨a, cap, h0, h1, h2⟩ := h
  refine ⟨a, cap, h0, h1, fun hne => ?_⟩
  obtain ⟨b, o, ha, hlt, hb, hx⟩ := h2 hne
  refine ⟨b, o, ha, by rw [hw]; exact hlt, hro b hb, fun i x hi => ?_⟩
  rw [hw]
  exact RT_pure hw hro e x _ (hx i x hi)
 | .st fs, x, v, h => by
  simp only [RV] at h ⊢
  obtain ⟨vs, h1, h2, h3, h4⟩ := h
  exact ⟨vs, h1, h2, RTs_pure hw hro fs x _ h3, h4⟩
 | .ifc Ts ts, x, v, h => by simp only [RV] at h ⊢; exact RA_pure hw hro ts Ts x v h
end
theorem RLst_pure {s s2 : St} (hw : s2.w = s.w) (hro : ∀ b, ¬ Own s b → ¬ Own s2 b) {t : Ty} {l : List t.El} {v : Value} (h : RLst s t l v) : RLst s2 t l v := by
 obtain ⟨a, cap, h0, h1, h2⟩ := h
 refine ⟨a, cap, h0, h1, fun hne => ?_⟩
 obtain ⟨b, o, ha, hlt, hb, hx⟩ := h2 hne
 refine ⟨b, o, ha, by rw [hw]; exact hlt, hro b hb, fun i x hi => ?_⟩
 rw [hw]
 exact RT_pure hw hro t x _ (hx i x hi)
mutual
theorem R_pure {s s2 : St} (hh : s.h = []) (hw : s2.w = s.w) (hro : ∀ b, ¬ Own s b → ¬ Own s2 b) : ∀ (a : AV) (v : Value), R s a v → R s2 a v
 | .any, _, _ => by simp only [R]
 | .und, v, h => by simpa only [R] using h
 | .bool b, v, h => by simpa only [R] using h
 | .int k n, v, h => by simpa only [R] using h
 | .str x, v, h => by simpa only [R] using h
 | .raw _ _ _, v, h => by simpa only [R] using h
 | .nilp, v, h => by simpa only [R] using h
 | .nsl, v, h => by simpa only [R] using h
 | .zsl _, v, h => by simpa only [R] using h
 | .nilfn, v, h => by simpa only [R] using h
 | .nili, v, h => by simpa only [R] using h
 | .nilm, v, h => by simpa only [R] using h
 | .oth id, v, h => by simp only [R] at h; rw [hh] at h; simp [kn] at h
 | .ptr id off, v, h => by simp only [R] at h; rw [hh] at h; simp [kn] at h
 | .csl id n cap, v, h => by simp only [R] at h; rw [hh] at h; simp [kn] at h
 | .optr id g t i off, v, h => by simp only [R] at h; rw [hh] at h; simp [kn] at h
 | .own id g n, v, h => by simp only [R] at h; rw [hh] at h; simp [kn] at h
 | .osl id g lo n, v, h => by simp only [R] at h; rw [hh] at h; simp [kn] at h
 | .tosl id g lo n, v, h => by simp only [R] at h; rw [hh] at h; simp [kn] at h
 | .pv cs, v, h => by
  simp only [R] at h ⊢
  obtain ⟨b, o, hv, hlt, hb, hc⟩ := h
  refine ⟨b, o, hv, by rw [hw]; exact hlt, hro b hb, ?_⟩
  rw [hw]
  exact RC_pure hh hw hro cs _ hc
 | .agg cs, v, h => by
  simp only [R] at h ⊢
  obtain ⟨vs, hv, hl, h1⟩ := h
  exact ⟨vs, hv, RL_pure hh hw hro cs vs hl, h1⟩
 | .tup cs, v, h => by
  simp only [R] at h ⊢
  obtain ⟨vs, hv, hl⟩ := h
  exact ⟨vs, hv, RL_pure hh hw hro cs vs hl⟩
 | .lst t l, v, h => by simp only [R] at h ⊢; exact RLst_pure hw hro h
 | .tlst t l, v, h => by simp only [R] at h ⊢; exact ⟨RLst_pure hw hro h.1, h.2⟩
 | .fn f a b, v, h => by
  simp only [R] at h ⊢
  obtain ⟨xs, ys, hv, h1, h2⟩ := h
  exact ⟨xs, ys, hv, RL_pure hh hw hro a xs h1, RL_pure hh hw hro b ys h2⟩
 | .iface t x, v, h => by
  simp only [R] at h ⊢
  obtain ⟨y, hv, h1⟩ := h
  exact ⟨y, hv, R_pure hh hw hro x y h1⟩
theorem RL_pure {s s2 : St} (hh : s.h = []) (hw : s2.w = s.w) (hro : ∀ b, ¬ Own s b → ¬ Own s2 b) : ∀ (cs : List AV) (vs : List Value), RL s cs vs → RL s2 cs vs
 | [], vs, h => by simpa only [RL] using h
 | c :: cs, vs, h => by
  simp only [RL] at h ⊢
  obtain ⟨v, vs', hv, h1, h2⟩ := h
  exact ⟨v, vs', hv, R_pure hh hw hro c v h1, RL_pure hh hw hro cs vs' h2⟩
theorem RC_pure {s s2 : St} (hh : s.h = []) (hw : s2.w = s.w) (hro : ∀ b, ¬ Own s b → ¬ Own s2 b) : ∀ (cs : List AV) (c : Nat → Option Value), RC s cs c → RC s2 cs c
 | [], _, _ => by simp only [RC]
 | x :: cs, c, h => by
  simp only [RC] at h ⊢
  obtain ⟨⟨v, h0, h1, h2⟩, h3⟩ := h
  exact ⟨⟨v, h0, R_pure hh hw hro x v h1, h2⟩, RC_pure hh hw hro cs _ h3⟩
end
mutual
theorem flat_R {s s2 : St} : ∀ (a : AV) (v : Value), flatV a = true → R s a v → R s2 a v
 | .any, _, h, _ => by simp [flatV] at h
 | .und, _, h, _ => by simp [flatV] at h
 | .bool b, v, _, h => by simpa only [R] using h
 | .int k n, v, _, h => by simpa only [R] using h
 | .str x, v, _, h => by simpa only [R] using h
 | .nilp, v, _, h => by simpa only [R] using h
 | .nsl, v, _, h => by simpa only [R] using h
 | .zsl _, v, _, h => by simpa only [R] using h
 | .nilfn, v, _, h => by simpa only [R] using h
 | .nili, v, _, h => by simpa only [R] using h
 | .nilm, v, _, h => by simpa only [R] using h
 | .ptr _ _, _, h, _ => by simp [flatV] at h
 | .csl _ _ _, _, h, _ => by simp [flatV] at h
 | .raw _ _ _, _, h, _ => by simp [flatV] at h
 | .optr _ _ _ _ _, _, h, _ => by simp [flatV] at h
 | .own _ _ _, _, h, _ => by simp [flatV] at h
 | .osl _ _ _ _, _, h, _ => by simp [flatV] at h
 | .tosl _ _ _ _, _, h, _ => by simp [flatV] at h
 | .pv _, _, h, _ => by simp [flatV] at h
 | .lst _ _, _, h, _ => by simp [flatV] at h
 | .tlst _ _, _, h, _ => by simp [flatV] at h
 | .fn _ _ _, _, h, _ => by simp [flatV] at h
 | .agg cs, v, hf, h => by
  simp only [flatV] at hf
  simp only [R] at h ⊢
  obtain ⟨vs, hv, hl, h1⟩ := h
  exact ⟨vs, hv, flat_RL cs vs hf hl, h1⟩
 | .tup cs, v, hf, h => by
  simp only [flatV] at hf
  simp only [R] at h ⊢
  obtain ⟨vs, hv, hl⟩ := h
  exact ⟨vs, hv, flat_RL cs vs hf hl⟩
 | .iface t x, v, hf, h => by
  simp only [flatV] at hf
  simp only [R] at h ⊢
  obtain ⟨y, hv, h1⟩ := h
  exact ⟨y, hv, flat_R x y hf h1⟩
theorem flat_RL {s s2 : St} : ∀ (cs : List AV) (vs : List Value), flatVs cs = true → RL s cs vs → RL s2 cs vs
 | [], vs, _, h => by simpa only [RL] using h
 | c :: cs, vs, hf, h => by
  simp only [flatVs, Bool.and_eq_true] at hf
  simp only [RL] at h ⊢
  obtain ⟨v, vs', hv, h1, h2⟩ := h
  exact ⟨v, vs', hv, flat_R c v hf.1 h1, flat_RL cs vs' hf.2 h2⟩
end
def St.callee (s : St) (F : Nat → Prop) : St := ⟨s.σ, [], s.w, F⟩
theorem callee_own {s : St} {F : Nat → Prop} {b : Nat} : Own (s.callee F) b ↔ F b := by
 constructor
 ·rintro (h | ⟨id, o, h, _⟩)
  ·exact h
  ·simp [St.callee] at h
 ·exact .inl
theorem callee_ok {s : St} (hok : Ok s) {F : Nat → Prop} (hF : ∀ b, F b → Own s b) : Ok (s.callee F) where
 obj := fun id o h => by simp [St.callee] at h
 inj := fun i j o p b h => by simp [St.callee] at h
 fb := fun b hb => by
  rcases hF b hb with h | h
  ·exact hok.fb b h
  ·exact own_lt hok h
 dis := fun b h => by
  obtain ⟨id, o, h, _⟩ := h
  simp [St.callee] at h
theorem RLst_of_rows {s : St} {t : Ty} {l : List t.El} {ad : Option Addr} {cap : Nat} (hc : l.length ≤ cap) (h : l ≠ [] → ∃ b o, ad = some ⟨b, o, none⟩ ∧ b < s.w.heap.size ∧ ¬ Own s b ∧ RC s (rowsA t l) (fun j => s.w.cell? ⟨b, o + j, none⟩)) : RLst s t l (.slice ad l.length cap) := by
 refine ⟨ad, cap, rfl, hc, fun hne => ?_⟩
 obtain ⟨b, o, ha, hlt, hn, hr⟩ := h hne
 obtain ⟨vs, h1, h2, h3⟩ := RC_vals hr
 refine ⟨b, o, ha, hlt, hn, fun i x hi => ?_⟩
 have := RL_rows h1 h2 i x hi
 refine RT_mono (Step.refl s) _ _ _ _ (fun j v hv => ?_) this
 have := h3 _ v hv
 simp only [Nat.add_assoc] at this ⊢
 exact this
theorem rows_pure {s s2 : St} (hw : s2.w = s.w) (hro : ∀ b, ¬ Own s b → ¬ Own s2 b) {t : Ty} {l : List t.El} {c : Nat → Option Value} (h : RC s (rowsA t l) c) : RC s2 (rowsA t l) c := by
 obtain ⟨vs, h1, h2, h3⟩ := RC_vals h
 refine rows_RC (fun i x hi => ?_)
 refine RT_mono (Step.refl s2) _ _ _ _ (fun j v hv => h3 _ v hv) (RT_pure hw hro t x _ (RL_rows h1 h2 i x hi))
theorem own_view {s : St} (hok : Ok s) {F : Nat → Prop} (hF : ∀ b, F b → Own s b) {id : Nat} (hd : ∀ b, blkOf (s.σ id) = some b → ¬ F b) {T : TypeId} {t : Ty} {l : List t.El} {f : Bool} {g : Nat} (ho : s.h[id]? = some (.arr T t l f g)) {base : Option Addr} {len cap lo n : Nat} {ad : Option Addr} {cap' : Nat} (hσ : s.σ id = .slice base len cap) (hn : lo + n ≤ l.length) (hc : n ≤ cap')
  (ha : 0 < n → ∃ b, base = some ⟨b, 0, none⟩ ∧ ad = some ⟨b, lo * t.size, none⟩) : RLst (s.callee F) t ((l.drop lo).take n) (.slice ad n cap') := by
 have hlen : ((l.drop lo).take n).length = n := by rw [List.length_take, List.length_drop]; omega
 have key := RLst_of_rows (s := s.callee F) (t := t) (l := (l.drop lo).take n) (ad := ad) (cap := cap') (by rw [hlen]; exact hc) (fun hne => by
  have hpos : 0 < n := by rw [← hlen]; exact List.length_pos_iff.2 hne
  obtain ⟨b, hb, had⟩ := ha hpos
  have hl0 : l ≠ [] := by rintro rfl; simp at hne
  obtain ⟨_, _, hrc⟩ := own_RC hok ho hσ
  obtain ⟨b', hb', hr⟩ := hrc hl0
  rw [hb] at hb'
  cases hb'
  refine ⟨b, lo * t.size, had, own_lt hok ⟨id, _, ho, rfl, .inl (by rw [hσ, hb]; rfl)⟩, fun h => hd b (by rw [hσ, hb]; rfl) (callee_own.1 h), ?_⟩
  refine rows_pure (s := s) (s2 := s.callee F) rfl (fun b hb h => hb (hF b (callee_own.1 h))) ?_
  rw [← rowsA_take, ← rowsA_drop]
  exact RC_take _ (RC_drop _ hr))
 rw [hlen] at key
 exact key
theorem plain_callee {s : St} {F : Nat → Prop} (hF : ∀ b, F b → Own s b) : ∀ {x : AV} {v : Value}, plainV x = true → R s x v → R (s.callee F) x v
 | .int _ _, _, _, hr => by simpa only [R] using hr
 | .bool _, _, _, hr => by simpa only [R] using hr
 | .str _, _, _, hr => by simpa only [R] using hr
 | .lst t l, _, _, hr => by
  simp only [R] at hr ⊢
  exact RLst_pure (s := s) (s2 := s.callee F) rfl (fun b hb h => hb (hF b (callee_own.1 h))) hr
theorem plain_drop : ∀ (n : Nat) (cs : List AV), plainVs cs = true → plainVs (cs.drop n) = true
 | 0, cs, h => h
 | n + 1, [], h => h
 | n + 1, c :: cs, h => by
  simp only [plainVs, Bool.and_eq_true] at h
  exact plain_drop n cs h.2
theorem plain_RC {s : St} {F : Nat → Prop} (hF : ∀ b, F b → Own s b) : ∀ (cs : List AV) (c : Nat → Option Value), plainVs cs = true → RC s cs c → RC (s.callee F) cs c
 | [], _, _, _ => by simp only [RC]
 | x :: cs, c, h, hr => by
  simp only [plainVs, Bool.and_eq_true] at h
  simp only [RC] at hr ⊢
  obtain ⟨⟨v, h0, h1, h2⟩, h3⟩ := hr
  exact ⟨⟨v, h0, plain_callee hF h.1 h1, h2⟩, plain_RC hF cs _ h.2 h3⟩
mutual
theorem viewR_ok {s : St} (hok : Ok s) {h0 : Hp} (hs : SubH h0 s.h) {F : Nat → Prop} (hF : ∀ b, F b → Own s b) : ∀ (x : AV) (c : Value) (k : AV → Res) (v : AV) (ob : Option AObj), R s x c → (ownV x = true → ∀ b, OwnI s b → ¬ F b) → (viewR h0 x k).Is v ob → ∃ y, (k y).Is v ob ∧ R (s.callee F) y c
 | .bool b, c, k, v, ob, hr, _, h => ⟨_, h, by simpa only [R] using hr⟩
 | .int i n, c, k, v, ob, hr, _, h => ⟨_, h, by simpa only [R] using hr⟩
 | .str x, c, k, v, ob, hr, _, h => ⟨_, h, by simpa only [R] using hr⟩
 | .nilp, c, k, v, ob, hr, _, h => ⟨_, h, by simpa only [R] using hr⟩
 | .nsl, c, k, v, ob, hr, _, h => ⟨_, h, by simpa only [R] using hr⟩
 | .zsl t, c, k, v, ob, hr, _, h => ⟨_, h, by
   simp only [R] at hr ⊢
   subst hr
   exact ⟨none, 0, rfl, Nat.le_refl _, fun h => absurd rfl h⟩⟩
 | .nilfn, c, k, v, ob, hr, _, h => ⟨_, h, by simpa only [R] using hr⟩
 | .nili, c, k, v, ob, hr, _, h => ⟨_, h, by simpa only [R] using hr⟩
 | .nilm, c, k, v, ob, hr, _, h => ⟨_, h, by simpa only [R] using hr⟩
 | .lst t l, c, k, v, ob, hr, _, h => ⟨_, h, by
   simp only [R] at hr ⊢
   exact RLst_pure (s := s) (s2 := s.callee F) rfl (fun b hb h => hb (hF b (callee_own.1 h))) hr⟩
 | .tlst t l, c, k, v, ob, hr, _, h => ⟨_, h, by
   simp only [R] at hr ⊢
   exact RLst_pure (s := s) (s2 := s.callee F) rfl (fun b hb h => hb (hF b (callee_own.1 h))) hr.1⟩
 | .own id g n, c, k, v, ob, hr, ho, h => by
  have hFn := ho rfl
  simp only [viewR] at h
  split at h
  ·rename_i E t l f g' ho0
   obtain ⟨⟨rfl, hn⟩, h⟩ := h
   have ho1 := hs id _ ho0 rfl
   simp only [R] at hr
   obtain ⟨_, base, cap, rfl, hr⟩ := hr
   obtain ⟨_, hr2⟩ := hr E t l f g' ho1
   obtain ⟨_, len, hσ⟩ := hr2 rfl
   obtain ⟨_, hcap, hb⟩ := own_RC hok ho1 hσ
   refine ⟨_, h, ?_⟩
   have := own_view hok hF (fun b hb => hFn b ⟨id, _, ho1, rfl, .inl hb⟩) ho1 (lo := 0) (n := n) (ad := base) (cap' := cap) hσ (by omega) (by omega) (fun hpos => by
    have hl0 : l ≠ [] := by rintro rfl; simp at hn; omega
    obtain ⟨b, hb, _⟩ := hb hl0
    exact ⟨b, hb, by rw [hb, Nat.zero_mul]⟩)
   simp only [R]
   rw [List.drop_zero] at this
   exact this
  ·exact h.elim
 | .osl id g lo n, c, k, v, ob, hr, ho, h => by
  have hFn := ho rfl
  simp only [viewR] at h
  split at h
  ·rename_i E t l f g' ho0
   obtain ⟨⟨rfl, hn⟩, h⟩ := h
   have ho1 := hs id _ ho0 rfl
   simp only [R] at hr
   obtain ⟨_, ad, cap', rfl, hc, hr⟩ := hr
   obtain ⟨_, hr2⟩ := hr E t l f g' ho1
   obtain ⟨_, base, len, cap, hσ, hb⟩ := hr2 rfl
   refine ⟨_, h, ?_⟩
   have := own_view hok hF (fun b hb => hFn b ⟨id, _, ho1, rfl, .inl hb⟩) ho1 (lo := lo) (n := n) (ad := ad) (cap' := cap') hσ hn hc hb
   simp only [R]
   exact this
  ·exact h.elim
 | .tosl id g lo n, c, k, v, ob, hr, ho, h => by
  have hFn := ho rfl
  simp only [viewR] at h
  split at h
  ·rename_i E t l f g' ho0
   obtain ⟨⟨rfl, hn⟩, h⟩ := h
   have ho1 := hs id _ ho0 rfl
   simp only [R] at hr
   obtain ⟨⟨_, ad, cap', rfl, hc, hr⟩, _⟩ := hr
   obtain ⟨_, hr2⟩ := hr E t l f g' ho1
   obtain ⟨_, base, len, cap, hσ, hb⟩ := hr2 rfl
   refine ⟨_, h, ?_⟩
   have := own_view hok hF (fun b hb => hFn b ⟨id, _, ho1, rfl, .inl hb⟩) ho1 (lo := lo) (n := n) (ad := ad) (cap' := cap') hσ hn hc hb
   simp only [R]
   exact this
  ·exact h.elim
 | .agg cs, c, k, v, ob, hr, ho, h => by
  simp only [viewR] at h
  simp only [R] at hr
  obtain ⟨vs, rfl, hl, h1⟩ := hr
  obtain ⟨ys, h2, h3⟩ := viewsR_ok hok hs hF cs vs _ v ob hl (fun e => ho (by simpa only [ownV] using e)) h
  exact ⟨_, h2, by simp only [R]; exact ⟨vs, rfl, h3, h1⟩⟩
 | .tup cs, c, k, v, ob, hr, ho, h => by
  simp only [viewR] at h
  simp only [R] at hr
  obtain ⟨vs, rfl, hl⟩ := hr
  obtain ⟨ys, h2, h3⟩ := viewsR_ok hok hs hF cs vs _ v ob hl (fun e => ho (by simpa only [ownV] using e)) h
  exact ⟨_, h2, by simp only [R]; exact ⟨vs, rfl, h3⟩⟩
 | .iface t x, c, k, v, ob, hr, ho, h => by
  simp only [viewR] at h
  simp only [R] at hr
  obtain ⟨y, rfl, hy⟩ := hr
  obtain ⟨z, h2, h3⟩ := viewR_ok hok hs hF x y _ v ob hy (fun e => ho (by simpa only [ownV] using e)) h
  exact ⟨_, h2, by simp only [R]; exact ⟨y, rfl, h3⟩⟩
 | .fn f a b, c, k, v, ob, hr, ho, h => by
  simp only [viewR] at h
  simp only [R] at hr
  obtain ⟨xs, ys, rfl, h1, h2⟩ := hr
  obtain ⟨za, h3, h4⟩ := viewsR_ok hok hs hF a xs _ v ob h1 (fun e => ho (by simp only [ownV, e, Bool.true_or])) h
  obtain ⟨zb, h5, h6⟩ := viewsR_ok hok hs hF b ys _ v ob h2 (fun e => ho (by simp only [ownV, e, Bool.or_true])) h3
  exact ⟨_, h5, by simp only [R]; exact ⟨xs, ys, rfl, h4, h6⟩⟩
 | .any, c, k, v, ob, hr, _, h => by simp only [viewR] at h; exact h.elim
 | .und, c, k, v, ob, hr, _, h => by simp only [viewR] at h; exact h.elim
 | .csl _ _ _, c, k, v, ob, hr, _, h => by simp only [viewR] at h; exact h.elim
 | .raw _ _ _, c, k, v, ob, hr, _, h => by simp only [viewR] at h; exact h.elim
 | .ptr id off, c, k, v, ob, hr, ho, h => by
  simp only [viewR] at h
  split at h
  ·rename_i T cs ho0
   split at h
   ·rename_i hp
    have ho1 := hs id _ ho0 rfl
    simp only [R] at hr
    obtain ⟨_, b, rfl, hr2⟩ := hr
    have hσ := hr2 T cs ho1
    obtain ⟨b', hb', hRC⟩ := cells_RC hok ho1
    rw [hσ] at hb'
    cases hb'
    obtain ⟨b2, vs, rest, hb2, hh, _⟩ := hok.obj id _ ho1
    rw [hσ] at hb2
    cases hb2
    refine ⟨_, h, ?_⟩
    simp only [R]
    refine ⟨b, off, rfl, (Array.getElem?_eq_some_iff.1 hh).1, fun e => ho rfl b ⟨id, _, ho1, rfl, .inl (by rw [hσ]; rfl)⟩ (callee_own.1 e), ?_⟩
    exact plain_RC hF _ _ (plain_drop _ _ hp) (RC_drop off hRC)
   ·exact h.elim
  ·exact h.elim
 | .optr _ _ _ _ _, c, k, v, ob, hr, _, h => by simp only [viewR] at h; exact h.elim
 | .pv _, c, k, v, ob, hr, _, h => by simp only [viewR] at h; exact h.elim
theorem viewsR_ok {s : St} (hok : Ok s) {h0 : Hp} (hs : SubH h0 s.h) {F : Nat → Prop} (hF : ∀ b, F b → Own s b) : ∀ (xs : List AV) (cs : List Value) (k : List AV → Res) (v : AV) (ob : Option AObj), RL s xs cs → (ownVs xs = true → ∀ b, OwnI s b → ¬ F b) → (viewsR h0 xs k).Is v ob → ∃ ys, (k ys).Is v ob ∧ RL (s.callee F) ys cs
 | [], cs, k, v, ob, hr, _, h => ⟨[], h, by simpa only [RL] using hr⟩
 | x :: xs, cs, k, v, ob, hr, ho, h => by
  simp only [viewsR] at h
  simp only [RL] at hr
  obtain ⟨c, cs', rfl, h1, h2⟩ := hr
  obtain ⟨y, h3, h4⟩ := viewR_ok hok hs hF x c _ v ob h1 (fun e => ho (by simp only [ownVs, e, Bool.true_or])) h
  obtain ⟨ys, h5, h6⟩ := viewsR_ok hok hs hF xs cs' _ v ob h2 (fun e => ho (by simp only [ownVs, e, Bool.or_true])) h3
  exact ⟨y :: ys, h5, by simp only [RL]; exact ⟨c, cs', rfl, h4, h6⟩⟩
end

/-! ### Any operation -/
section
variable {P : Program} {tb : Tb}
def Enters (P : Program) (g : FuncId) : Prop := ∃ fn c, P.funcs[g]? = some fn ∧ (fn.name == "runtime.NumGoroutine") = false ∧ fn.body = some c
theorem enter_run {g : FuncId} (h : Enters P g) (args : Array Value) (w : World) : (callFunc g args).run P w = .ok (.enter g args) w := by
 obtain ⟨fn, c, h1, h2, h3⟩ := h
 have h2 : ¬ fn.name = "runtime.NumGoroutine" := by simpa using h2
 simp [callFunc, h1, h2, h3]
def SpecOk (P : Program) (g : FuncId) (sp : DSpec) : Prop :=
 Enters P g ∧ ∀ ys p r, sp ys = some (p, r) → p → ∀ (s : St), Ok s → s.h = [] → ∀ cs, RL s ys cs →
  Calls P g cs.toArray s.w fun e w' => ∃ s' cr, e = .returned cr ∧ s'.w = w' ∧ Step s s' ∧ Ok s' ∧ s'.h = [] ∧ R s' r cr
def FreshOk (P : Program) (g : FuncId) (sp : FSpec) : Prop :=
 Enters P g ∧ ∀ ys p r, sp ys = some (p, r) → p → ∀ (s : St), Ok s → s.h = [] → ∀ cs, RL s ys cs →
  Calls P g cs.toArray s.w fun e w' => ∃ s' cr g' f', e = .returned cr ∧ s'.w = w' ∧ Step s s' ∧ Ok s' ∧ s'.h = [.arr r.T r.t r.l f' g'] ∧ R s' (.own 0 g' r.l.length) cr
structure Keep (s s' : St) : Prop where
 size : s.w.heap.size ≤ s'.w.heap.size
 ro : ∀ {b : Nat}, b < s.w.heap.size → ¬ Own s b → ¬ Own s' b
 cell : ∀ {b : Nat}, ¬ Own s b → ∀ {o : Nat} {v : Value}, s.w.cell? ⟨b, o, none⟩ = some v → s'.w.cell? ⟨b, o, none⟩ = some v
theorem Sim.keep {s s' : St} (h : Sim s s') : Keep s s' := ⟨h.size, h.ro, fun hn _ _ hc => h.cell hn hc⟩
theorem Keep.trans {a b c : St} (h : Keep a b) (k : Keep b c) : Keep a c where
 size := Nat.le_trans h.size k.size
 ro := fun hb hn => k.ro (Nat.lt_of_lt_of_le hb h.size) (h.ro hb hn)
 cell := fun {x} hn {o v} hc => k.cell (h.ro (World.block_lt_of_cell? a.w ⟨x, o, none⟩ hc) hn) (h.cell hn hc)
def IterOk (P : Program) (g : FuncId) (sp : ISpec) : Prop :=
 Enters P g ∧ ∀ (s0 : St) (caps : List AV) (p : Prop) (r : IRes) (cs : List Value) (ln : Nat) (J : Nat → St → Prop) (Jx : St → Prop), Ok s0 → RL s0 caps cs → sp s0.h caps = some (p, r) → p → J 0 s0 →
  (∀ k s, J k s → Ok s ∧ Sim s0 s) → (∀ k s w', J k s → Grew s.w w' → J k (s.world w')) →
  (∀ k s x cv, J k s → r.l[k]? = some x → R s (avV r.t x) cv → YieldAt Fence.wide 0 P ln #[cv] s.w fun e W' => (e = .returned (.bool true) ∧ ∃ s', s'.w = W' ∧ J (k + 1) s' ∧ Keep s s') ∨ (e = .returned (.bool false) ∧ ∃ s', s'.w = W' ∧ Jx s')) →
  CallsIn Fence.wide 1 P g (#[.func (.yield ln) #[] #[]] ++ cs.toArray) s0.w fun e W' => (∃ v, e = .returned v) ∧ ((∃ s', s'.w = W' ∧ J r.l.length s') ∨ ∃ s', s'.w = W' ∧ Jx s')
def SpOk (P : Program) (g : FuncId) : Spec → Prop
 | .d sp => SpecOk P g sp
 | .f sp => FreshOk P g sp
 | .i sp => IterOk P g sp
def SpecsOk (P : Program) (sps : List (FuncId × Spec)) : Prop := ∀ g sp, lks sps g = some sp → SpOk P g sp
def OpOk (P : Program) (o : Oper) (a : Act) (s : St) (pos : Nat) (v : AV) (ob : Option AObj) : Prop :=
 ∀ (K : Act → World → Prop) (Q : Exit → Act → World → Prop), (∀ cv s', Step s s' → Ok s' → R s' v cv → s'.h = putO s.h pos ob → K (a.put o.dst cv) s'.w) → o.wp P a s.w K Q
theorem OpOk.of_gives {o : Oper} {a : Act} {s : St} {pos : Nat} {v : AV} {ob : Option AObj} (h : Gives P o a s pos v ob) : OpOk P o a s pos v ob := by
 intro K Q hK
 obtain ⟨cv, s', hr, h1, h2, h3, h4⟩ := h
 unfold Oper.wp
 rw [hr]
 exact hK cv s' h1 h2 h3 h4
theorem resolve_value {x : Operand} {a : Act} {c : Call} {ty : TypeId} (hc : c.callee = .value x) {f : Fn} {first caps : Array Value} (hx : a.eval x = .func f first caps) (w : World) :
  (resolve a.eval c ty).run P w = .ok { target := .fn f caps, args := first ++ c.args.map a.eval } w := by
 simp only [resolve, hc, hx, Deferred.ofValue, Sem.run_pure]
theorem call_wp {o : Oper} {a : Act} {c : Call} (ho : o.op = .call c) {x : Operand} (hc : c.callee = .value x) {g : FuncId} {first caps : Array Value} (hx : a.eval x = .func (.func g) first caps) (hg : Enters P g) {w : World} {K : Act → World → Prop} {Q : Exit → Act → World → Prop}
  (h : Calls P g (first ++ c.args.map a.eval ++ caps) w fun e w' => match e with | .returned v => K (a.put o.dst v) w' | .panicked chain => Q (.panic chain) a w' | .outgrown => LetsOut Q) : o.wp P a w K Q := by
 unfold Oper.wp execOp
 simp only [ho, Sem.run_bind, resolve_value hc hx w, Result.andThen_ok, invoke, enter_run hg]
 rw [Oper.upon_enter]
 exact Calls.mono h fun e w' he => by cases e <;> exact he
theorem fnval {s : St} {f : Fn} {first caps : List AV} {v : Value} (h : R s (.fn f first caps) v) : ∃ xs ys : List Value, v = .func f xs.toArray ys.toArray ∧ RL s first xs ∧ RL s caps ys := by
 simpa only [R] using h
theorem lkm_mem : ∀ {l : List (String × FuncId)} {n : String} {f : FuncId}, lkm l n = some f → (n, f) ∈ l
 | [], _, _, h => by simp [lkm] at h
 | p :: l, n, f, h => by
  simp only [lkm] at h
  split at h
  ·rename_i hd
   have := of_decide_eq_true hd
   subst this
   cases h
   simp
  ·exact List.mem_cons_of_mem _ (lkm_mem h)
theorem method_run (hT : TbOk P tb) {t : TypeId} {ti : TI} (hl : lk tb t = some ti) {m : String} {f : FuncId} (hm : lkm ti.meths m = some f) (n : Nat) (v : Value) (w : World) : (method (n + 1) t v m).run P w = .ok (f, v) w := by
 have hg := tb_und hT hl
 obtain ⟨i, _, hi, _⟩ := hg.info
 obtain ⟨d, hd, hf⟩ := hg.und
 have hchk := hg.meth i hi _ (lkm_mem hm)
 unfold chkM at hchk
 simp only at hchk
 split at hchk
 ·rename_i mm hfind
  rw [Bool.and_eq_true] at hchk
  obtain ⟨hp, hchk⟩ := hchk
  split at hchk
  ·rename_i f' b hfn
   rw [Bool.and_eq_true] at hchk
   have h1 := Nat.eq_of_beq_eq_true hchk.1
   have h2 : b = isPtrK ti.kind := by simpa using hchk.2
   subst h1 h2
   have hpath : mm.path.toList = [] := by
    have : mm.path = #[] := by simpa using hp
    rw [this]
   cases hk : ti.kind <;> rw [hk] at hf <;> cases d <;> simp only [TK.fits] at hf <;> first
    | (cases hf; done)
    | (rw [hk] at hfn; simp [method, typeInfo, hi, hfind, hpath, follow, hfn, receiverAt, run_underlying hd, isPtrK, Place.get])
  ·cases hchk
 ·cases hchk
theorem callee_wp (hT : TbOk P tb) {s : St} {ρ : Operand → AV} {a : Act} (hρ : ∀ x, R s (ρ x) (a.eval x)) {o : Oper} {c : Call} (ho : o.op = .call c) {g : FuncId} {first caps : List AV} (hc : calleeA tb ρ c.callee = some (g, first, caps)) (hg : Enters P g) :
  ∃ xs ys : List Value, RL s first xs ∧ RL s caps ys ∧ ∀ (w : World) (K : Act → World → Prop) (Q : Exit → Act → World → Prop),
   Calls P g (xs ++ (c.args.toList.map a.eval ++ ys)).toArray w (fun e w' => match e with | .returned v => K (a.put o.dst v) w' | .panicked chain => Q (.panic chain) a w' | .outgrown => LetsOut Q) → o.wp P a w K Q := by
 unfold calleeA at hc
 split at hc
 ·rename_i x hcl
  split at hc
  ·rename_i g' f' c' hx
   cases hc
   have hfv := hρ x
   rw [hx] at hfv
   obtain ⟨xs, ys, hfx, h1, h2⟩ := fnval hfv
   refine ⟨xs, ys, h1, h2, fun w K Q h => call_wp ho hcl hfx hg ?_⟩
   have hargs : (xs ++ (c.args.toList.map a.eval ++ ys)).toArray = xs.toArray ++ c.args.map a.eval ++ ys.toArray := by
    have e : c.args.map a.eval = (c.args.toList.map a.eval).toArray := by rw [← Array.toList_map]
    rw [e]
    simp
   rw [← hargs]
   exact h
  ·cases hc
 ·rename_i r m hcl
  split at hc
  ·rename_i t v hx
   split at hc
   ·rename_i ti hl
    split at hc
    ·rename_i f hm
     cases hc
     have hfv := hρ r
     rw [hx] at hfv
     simp only [R] at hfv
     obtain ⟨u, hu, hru⟩ := hfv
     refine ⟨[u], [], by simp only [RL]; exact ⟨u, [], rfl, hru, rfl⟩, by simp only [RL], fun w K Q h => ?_⟩
     unfold Oper.wp execOp
     have hmeth := method_run hT hl hm (P.types.size + Made.depth - 1) u w
     rw [show P.types.size + Made.depth - 1 + 1 = P.types.size + Made.depth by
      have : 0 < Made.depth := by decide
      omega] at hmeth
     have hinv : (Go.invoke (.fn (.method m) #[]) (#[Value.iface t u] ++ c.args.map a.eval)).run P w = .ok (.enter g (#[u] ++ c.args.map a.eval)) w := by
      have h0 : (#[Value.iface t u] ++ c.args.map a.eval)[0]? = some (Value.iface t u) := by
       rw [Array.getElem?_append_left (by simp)]; rfl
      have h1 : (#[Value.iface t u] ++ c.args.map a.eval).extract 1 (#[Value.iface t u] ++ c.args.map a.eval).size = c.args.map a.eval := by
       apply Array.ext'
       simp
       exact List.take_of_length_le (by simp)
      simp only [Go.invoke, h0, h1, callMethod, Sem.run_bind, run_program, Result.andThen_ok, hmeth, enter_run hg]
     simp only [ho, Sem.run_bind, resolve, hcl, hu, Sem.run_pure, Result.andThen_ok, hinv]
     rw [Oper.upon_enter]
     have e : (#[u] ++ c.args.map a.eval) = ([u] ++ (List.map a.eval c.args.toList ++ [])).toArray := by
      apply Array.ext'
      simp
     rw [e]
     exact Calls.mono h fun e w' he => by cases e <;> exact he
    ·cases hc
   ·cases hc
  ·cases hc
 ·cases hc
theorem callD_ok {C : Cx} (hT : TbOk P C.tb) (hD : SpecsOk P C.specs) {s : St} (hok : Ok s) {h0 : Hp} (hs : SubH h0 s.h) {pos : Nat} {ρ : Operand → AV} {a : Act} (hρ : ∀ x, R s (ρ x) (a.eval x)) {o : Oper} {c : Call} (ho : o.op = .call c) {g : FuncId} {first caps : List AV} (hc : calleeA C.tb ρ c.callee = some (g, first, caps))
  {sp : DSpec} (hsp : lks C.specs g = some (.d sp)) {v : AV} {ob : Option AObj} (h : (callD h0 sp (first ++ (c.args.toList.map ρ ++ caps))).Is v ob) : OpOk P o a s pos v ob := by
 obtain ⟨hg, hsp⟩ : SpecOk P g sp := hD g _ hsp
 obtain ⟨xs, ys, h1, h2, hcw⟩ := callee_wp hT hρ ho hc hg
 have hall : RL s (first ++ (c.args.toList.map ρ ++ caps)) (xs ++ (c.args.toList.map a.eval ++ ys)) := RL_append h1 (RL_append (RL_map hρ _) h2)
 unfold callD at h
 have hF : ∀ b, (if ownVs (first ++ (c.args.toList.map ρ ++ caps)) = true then (fun _ => False) else Own s) b → Own s b := by
  intro b hb
  split at hb
  ·exact hb.elim
  ·exact hb
 obtain ⟨zs, h3, h4⟩ := viewsR_ok hok hs (F := if ownVs (first ++ (c.args.toList.map ρ ++ caps)) = true then (fun _ => False) else Own s) hF _ _ _ v ob hall (fun e b _ hb => by
  rw [if_pos e] at hb; exact hb) h
 split at h3
 ·rename_i p r hspz
  split at h3
  ·exact h3.elim
  ·rename_i hfl
   obtain ⟨hp, rfl, rfl⟩ := h3
   intro K Q hK
   refine hcw _ K Q ?_
   have hcall := hsp zs p r hspz hp _ (callee_ok hok hF) rfl _ h4
   refine Calls.mono hcall ?_
   rintro e w' ⟨s', cr, rfl, rfl, hst, hok', hh', hr⟩
   have hgrew : Grew s.w s'.w := ⟨hst.os, hst.tape, hst.output, hst.drawn, hst.size, fun b hb => (hst.keep b hb (fun ⟨id, o, h, _⟩ => by simp [St.callee] at h)).2⟩
   refine hK cr (s.world s'.w) (St.world_step hgrew) (St.world_ok hok hgrew) ?_ rfl
   cases hov : ownVs (first ++ (c.args.toList.map ρ ++ caps)) with
   | true =>
    rw [hov] at hfl
    exact flat_R _ _ (by simpa using hfl) hr
   | false =>
    refine R_pure (s := s') (s2 := s.world s'.w) hh' rfl (fun b hb h5 => hb ?_) _ _ hr
    refine .inl ?_
    rw [hst.frn]
    simp only [St.callee, hov, Bool.false_eq_true, if_false]
    exact h5
 ·exact h3.elim
mutual
theorem flat_RT {s s2 : St} : ∀ (t : Ty) (x : t.El) (c : Nat → Option Value), flatT t = true → RT s t x c → RT s2 t x c
 | .bool, b, c, _, h => by simpa only [RT] using h
 | .int _, b, c, _, h => by simpa only [RT] using h
 | .str, b, c, _, h => by simpa only [RT] using h
 | .raw _, b, c, _, h => by simpa only [RT] using h
 | .sl e, l, c, hf, h => by simp [flatT] at hf
 | .ifc _ _, _, _, hf, _ => by simp [flatT] at hf
 | .st fs, x, c, hf, h => by
  simp only [flatT] at hf
  simp only [RT] at h ⊢
  exact flat_RTs fs x c hf h
theorem flat_RTs {s s2 : St} : ∀ (ts : List Ty) (x : Ty.Els ts) (c : Nat → Option Value), flatTs ts = true → RTs s ts x c → RTs s2 ts x c
 | [], _, _, _, _ => by simp only [RTs]
 | t :: ts, x, c, hf, h => by
  simp only [flatTs, Bool.and_eq_true] at hf
  simp only [RTs] at h ⊢
  exact ⟨flat_RT t x.1 c hf.1 h.1, flat_RTs ts x.2 _ hf.2 h.2⟩
end
theorem callF_ok {C : Cx} (hT : TbOk P C.tb) (hD : SpecsOk P C.specs) {s : St} (hok : Ok s) {h0 : Hp} (hs : SubH h0 s.h) {nid : Nat} (hfr : Free s.h nid) {ρ : Operand → AV} {a : Act} (hρ : ∀ x, R s (ρ x) (a.eval x)) {o : Oper} {c : Call} (ho : o.op = .call c) {g : FuncId} {first caps : List AV} (hc : calleeA C.tb ρ c.callee = some (g, first, caps))
  {sp : FSpec} (hsp : lks C.specs g = some (.f sp)) {v : AV} {ob : Option AObj} (h : (callF h0 nid sp (first ++ (c.args.toList.map ρ ++ caps))).Is v ob) : OpOk P o a s nid v ob := by
 obtain ⟨hg, hsp⟩ : FreshOk P g sp := hD g _ hsp
 obtain ⟨xs, ys, h1, h2, hcw⟩ := callee_wp hT hρ ho hc hg
 have hall : RL s (first ++ (c.args.toList.map ρ ++ caps)) (xs ++ (c.args.toList.map a.eval ++ ys)) := RL_append h1 (RL_append (RL_map hρ _) h2)
 unfold callF at h
 have hF : ∀ b, (if ownVs (first ++ (c.args.toList.map ρ ++ caps)) = true then (fun _ => False) else Own s) b → Own s b := by
  intro b hb
  split at hb
  ·exact hb.elim
  ·exact hb
 obtain ⟨zs, h3, h4⟩ := viewsR_ok hok hs (F := if ownVs (first ++ (c.args.toList.map ρ ++ caps)) = true then (fun _ => False) else Own s) hF _ _ _ v ob hall (fun e b _ hb => by
  rw [if_pos e] at hb; exact hb) h
 split at h3
 ·rename_i p r hspz
  split at h3
  ·exact h3.elim
  ·rename_i hfl
   obtain ⟨hp, rfl, rfl⟩ := h3
   intro K Q hK
   refine hcw _ K Q ?_
   have hcall := hsp zs p r hspz hp _ (callee_ok hok hF) rfl _ h4
   refine Calls.mono hcall ?_
   rintro e w' ⟨s', cr, g', f', rfl, rfl, hst, hok', hh', hr⟩
   have hgrew : Grew s.w s'.w := ⟨hst.os, hst.tape, hst.output, hst.drawn, hst.size, fun b hb => (hst.keep b hb (fun ⟨id, o, h, _⟩ => by simp [St.callee] at h)).2⟩
   have h00 : s'.h[0]? = some (.arr r.T r.t r.l f' g') := by rw [hh']; rfl
   have hobj := hok'.obj 0 _ h00
   obtain ⟨qs, hrow, hone, hel, _⟩ := hobj
   have hnew : ∀ b, blkOf (s'.σ 0) = some b → s.w.heap.size ≤ b := by
    intro b hb
    rcases Nat.lt_or_ge b s.w.heap.size with hlt | hge
    ·have hkeep := hst.keep b hlt (fun ⟨id, o, h, _⟩ => by simp [St.callee] at h)
     exact absurd ⟨0, _, h00, rfl, .inl hb⟩ hkeep.1
    ·exact hge
   have hst2 := St.new_step (s := s) (nid := nid) hfr (ob := .arr r.T r.t r.l false 0) hgrew hnew
   simp only [R] at hr
   obtain ⟨_, base, cap, hcr, hr⟩ := hr
   obtain ⟨_, hr2⟩ := hr _ _ _ _ _ h00
   obtain ⟨_, len, hσ⟩ := hr2 rfl
   refine hK cr (s.new nid (.arr r.T r.t r.l false 0) (s'.σ 0) s'.w) hst2 (St.new_ok hok hfr hgrew hnew ?_) ?_ rfl
   ·refine ⟨qs, ?_, hone, fun i x hi => ?_, fun h => by cases h⟩
    ·simp only [St.new, upd_same]
     exact hrow
    ·cases hov : ownVs (first ++ (c.args.toList.map ρ ++ caps)) with
     | true =>
      rw [hov] at hfl
      exact flat_RT _ _ _ (by simpa using hfl) (hel i x hi)
     | false =>
      refine RT_pure (s := s') (s2 := s.new nid (.arr r.T r.t r.l false 0) (s'.σ 0) s'.w) rfl (fun b hb h5 => hb ?_) _ _ _ (hel i x hi)
      rcases h5 with h5 | ⟨id, o, q1, q2, q3⟩
      ·refine .inl ?_
       rw [hst.frn]
       simp only [St.callee, hov, Bool.false_eq_true, if_false]
       exact .inl h5
      ·by_cases he : id = nid
       ·subst he
        have q1 : (put s.h id (.arr r.T r.t r.l false 0))[id]? = some o := q1
        rw [put_same hfr] at q1
        cases q1
        have q3 := q3.one rfl
        simp only [St.new, upd_same] at q3
        exact .inr ⟨0, _, h00, rfl, .inl q3⟩
       ·have q3 := Has.of (s := s) (by simp only [St.new]; exact upd_other _ _ he) q3
        simp only [St.new] at q1
        rw [put_other hfr _ he] at q1
        refine .inl ?_
        rw [hst.frn]
        simp only [St.callee, hov, Bool.false_eq_true, if_false]
        exact .inr ⟨id, o, q1, q2, q3⟩
   ·simp only [R]
    refine ⟨by simp only [St.new, kn, put_same hfr], base, cap, hcr, fun T t' l' f2 g0 hc => ?_⟩
    simp only [St.new, put_same hfr] at hc
    cases hc
    exact ⟨Nat.le_refl _, fun _ => ⟨Nat.le_refl _, len, by simp only [St.new, upd_same]; exact hσ⟩⟩
 ·exact h3.elim
theorem opR_ok {C : Cx} (hT : TbOk P C.tb) (hD : SpecsOk P C.specs) {s : St} (hok : Ok s) {h0 : Hp} (hs : SubH h0 s.h) {nid : Nat} (hf : Free s.h nid) {ρ : Operand → AV} {a : Act} (hρ : ∀ x, R s (ρ x) (a.eval x)) {o : Oper} {v : AV} {ob : Option AObj}
  (h : (opR C h0 nid ρ o).Is v ob) : OpOk P o a s (posR nid ρ o) v ob := by
 have plain : (∀ t x y, o.op ≠ .store t x y) → (∀ c, o.op ≠ .call c) → OpOk P o a s (posR nid ρ o) v ob := by
  intro h1 h2
  have hpos : posR nid ρ o = nid := by
   unfold posR
   split
   ·rename_i ho; exact absurd ho (h1 _ _ _)
   ·rename_i ho; exact absurd ho (h2 _)
   ·rfl
  rw [hpos]
  unfold opR at h
  split at h
  ·rename_i ho; exact absurd ho (h1 _ _ _)
  ·rename_i ho; exact absurd ho (h2 _)
  ·exact OpOk.of_gives (pop_Gives hT hok hs hf hρ h)
 by_cases hst : ∃ t x y, o.op = .store t x y
 ·obtain ⟨t, x, y, ho⟩ := hst
  unfold opR at h
  simp only [ho] at h
  obtain ⟨rfl, s', hr, h1, h2, h3⟩ := store_Gu (P := P) hT hok hs (hρ x) (hρ y) h
  have hpos : posR nid ρ o = pid (ρ x) := by unfold posR; rw [ho]
  intro K Q hK
  unfold Oper.wp execOp
  simp only [ho, Sem.run_bind, hr, Result.andThen_ok, Sem.run_pure]
  exact hK undef s' h1 h2 (by simp only [R]) (by rw [hpos]; exact h3)
 ·by_cases hcl : ∃ c, o.op = .call c
  ·obtain ⟨c, ho⟩ := hcl
   have hpos : posR nid ρ o = posC nid ρ c := by unfold posR; rw [ho]
   rw [hpos]
   unfold opR at h
   simp only [ho] at h
   split at h
   ·rename_i x y t t' hc hargs htys
    split at h
    ·rename_i hb
     have := Nat.eq_of_beq_eq_true hb
     subst this
     have ha : c.args = #[x, y] := by have := congrArg List.toArray hargs; simpa using this
     have ht : c.argTypes = #[t, t] := by have := congrArg List.toArray htys; simpa using this
     obtain ⟨cv, s', hr, h1, h2, h3, h4⟩ := append_Gp (P := P) (ty := o.type) hT hok hs hf (hρ x) (hρ y) h
     have hpos2 : posC nid ρ c = posA nid (ρ x) := by
      unfold posC
      simp only [hc, hargs, htys]
     refine OpOk.of_gives ⟨cv, s', ?_, h1, h2, h3, by rw [hpos2]; exact h4⟩
     unfold execOp
     simp only [ho, resolve, hc, ha, ht, Sem.run_bind, Sem.run_pure, Result.andThen_ok, invoke, builtin]
     simp [hr]
    ·exact h.elim
   ·rename_i x y t t' hc hargs htys
    split at h
    ·rename_i hb
     have := Nat.eq_of_beq_eq_true hb
     subst this
     have ha : c.args = #[x, y] := by have := congrArg List.toArray hargs; simpa using this
     have ht : c.argTypes = #[t, t] := by have := congrArg List.toArray htys; simpa using this
     obtain ⟨cv, s', hr, h1, h2, h3, h4⟩ := copy_Gp (P := P) (ty := o.type) hT hok hs (hρ x) (hρ y) h
     have hpos2 : posC nid ρ c = pid (ρ x) := by
      unfold posC
      simp only [hc, hargs, htys]
     refine OpOk.of_gives ⟨cv, s', ?_, h1, h2, h3, by rw [hpos2]; exact h4⟩
     unfold execOp
     simp only [ho, resolve, hc, ha, ht, Sem.run_bind, Sem.run_pure, Result.andThen_ok, invoke, builtin]
     simp [hr]
    ·exact h.elim
   ·rename_i b hc hna hnb
    have hpos2 : posC nid ρ c = nid := by
     unfold posC
     split
     ·rename_i s' x' t1 t2 hc' hargs htys
      rw [hc] at hc'
      cases hc'
      exact (hna _ _ _ _ hargs htys rfl).elim
     ·rename_i s' x' t1 t2 hc' hargs htys
      rw [hc] at hc'
      cases hc'
      exact (hnb _ _ _ _ hargs htys rfl).elim
     ·rfl
    rw [hpos2]
    exact OpOk.of_gives (pop_Gives hT hok hs hf hρ h)
   ·split at h
    ·rename_i g first caps hc
     have nb : ∀ b : Builtin, c.callee = Callee.builtin b → False := by assumption
     have hpos2 : posC nid ρ c = nid := by
      unfold posC
      split
      ·rename_i hc' _ _; exact (nb _ hc').elim
      ·rename_i hc' _ _; exact (nb _ hc').elim
      ·rfl
     split at h
     ·rename_i sp hsp
      exact callD_ok hT hD hok hs hρ ho hc hsp h
     ·rename_i sp hsp
      rw [hpos2]
      exact callF_ok hT hD hok hs hf hρ ho hc hsp h
     ·exact h.elim
     ·exact h.elim
    ·exact h.elim
  ·exact plain (fun t x y he => hst ⟨t, x, y, he⟩) (fun c he => hcl ⟨c, he⟩)
end
end Av
