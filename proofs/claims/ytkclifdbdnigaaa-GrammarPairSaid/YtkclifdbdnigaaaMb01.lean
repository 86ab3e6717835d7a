/- Joined: PaM, PaW, PaX. -/
import Derived.Test.YtkclifdbdnigaaaMa19
import Derived.Test.YtkclifdbdnigaaaMa21
section
/- A rule that puts two derivations one behind the other: the sum of the products. -/
namespace Gr
section
variable {α β : Type}
theorem upto_shift (hit hit' : Nat → Int → Bool) (t : Int → Nat → Nat → List α) (t' : Int → Nat → Nat → List β) (a : Nat) (x : Item) (l : List Item) (i j : Nat) (ht : ∀ s p q, i ≤ p → p ≤ q → q ≤ j → (t s (p + a) (q + a)).length = (t' s p q).length)
    (hl : ∀ p, i < p → p ≤ j → (parts hit t l (p + a) (j + a)).length = (parts hit' t' l p j).length) : ∀ k, i + k ≤ j → upto hit t x l (i + a) (j + a) k = upto hit' t' x l i j k
  | 0, _ => rfl
  | k + 1, hk => by
    rw [upto_succ, upto_succ, upto_shift hit hit' t t' a x l i j ht hl k (by omega), show i + a + 1 + k = i + 1 + k + a from by omega, ht _ _ _ (Nat.le_refl _) (by omega) (by omega), hl _ (by omega) (by omega)]
theorem parts_shift (hit hit' : Nat → Int → Bool) (t : Int → Nat → Nat → List α) (t' : Int → Nat → Nat → List β) (a : Nat) : ∀ (l : List Item) (i j : Nat), (∀ s p q, i ≤ p → p ≤ q → q ≤ j → (t s (p + a) (q + a)).length = (t' s p q).length) →
    (∀ p, i ≤ p → p < j → ∀ c, hit (p + a) c = hit' p c) → (parts hit t l (i + a) (j + a)).length = (parts hit' t' l i j).length := by
  intro l
  induction l with
  | nil =>
    intro i j _ _
    rw [len_nil, len_nil]
    by_cases h : i = j
    · rw [if_pos h, if_pos (by omega)]
    · rw [if_neg h, if_neg (by omega)]
  | cons x l ih =>
    intro i j ht hh
    have hih : ∀ p, i < p → p ≤ j → (parts hit t l (p + a) (j + a)).length = (parts hit' t' l p j).length := fun p hp hq => ih p j (fun s p' q h1 h2 h3 => ht s p' q (by omega) h2 h3) (fun p' h1 h2 c => hh p' (by omega) h2 c)
    by_cases hx : x.cls = 0
    · rw [len_sym hit t l _ _ hx, len_sym hit' t' l _ _ hx, show j + a - (i + a) = j - i from by omega]
      by_cases hij : i ≤ j
      · exact upto_shift hit hit' t t' a x l i j ht hih _ (by omega)
      · rw [show j - i = 0 from by omega]; rfl
    · by_cases hij : i < j
      · have e := hh i (Nat.le_refl _) hij x.cls
        cases h2 : hit' i x.cls
        · rw [len_miss hit t hx (by rw [e]; exact h2), len_miss hit' t' hx h2]; rfl
        · rw [len_hit hit t hx (by omega) (by rw [e]; exact h2), len_hit hit' t' hx hij h2, show i + a + 1 = i + 1 + a from by omega]
          exact hih _ (by omega) (by omega)
      · rw [parts_short hit t _ _ _ (by simp; omega), parts_short hit' t' _ _ _ (by simp; omega)]; rfl
end
theorem sum_map_same {α : Type} {f g : α → Nat} : ∀ (l : List α), (∀ a ∈ l, f a = g a) → (l.map f).sum = (l.map g).sum
  | [], _ => rfl
  | a :: l, h => by rw [List.map_cons, List.map_cons, List.sum_cons, List.sum_cons, h a (by simp), sum_map_same l fun b hb => h b (by simp [hb])]
theorem T_shift (g : List Rule) (hit hit' : Nat → Int → Bool) (a : Nat) : ∀ (f : Nat) (s : Int) (i j : Nat), (∀ p, i ≤ p → p < j → ∀ c, hit (p + a) c = hit' p c) → (T g hit f s (i + a) (j + a)).length = (T g hit' f s i j).length := by
  intro f
  induction f with
  | zero => intro s i j _; rfl
  | succ f ih =>
    intro s i j hh
    rw [T, T, List.length_flatMap, List.length_flatMap]
    refine sum_map_same _ fun r _ => ?_
    rw [List.length_map, List.length_map]
    exact parts_shift hit hit' _ _ a _ i j (fun s p q h1 h2 h3 => ih s p q fun p' h4 h5 c => hh p' (by omega) (by omega) c) hh
theorem cnt_shift {g : List Rule} {ρ : Int → Nat} (hR : Ranked g ρ) (hit hit' : Nat → Int → Bool) (a n m : Nat) (s : Int) (i j : Nat) (hh : ∀ p, i ≤ p → p < j → ∀ c, hit (p + a) c = hit' p c) (hm : j - i ≤ m) (hn : m ≤ n) : cnt g hit n s (i + a) (j + a) = cnt g hit' m s i j := by
  unfold cnt
  rw [D_bound hR hit (n := m) s (i + a) (j + a) (by omega) hn]
  exact T_shift g hit hit' a _ s i j hh
theorem cnt_empty {g : List Rule} (hG : Good g) (hit : Nat → Int → Bool) (n : Nat) (s : Int) (i : Nat) : cnt g hit n s i i = 0 := by
  unfold cnt D
  rw [show 64 * (n + 1) = (64 * n + 63) + 1 from by omega, T, List.length_flatMap, List.sum_eq_zero_iff_forall_eq_nat]
  intro y hy
  rw [List.mem_map] at hy
  obtain ⟨r, hr, rfl⟩ := hy
  have h1 := (hG.ok r (mem_rulesOf.1 hr).1).parts.2.1
  rw [parts_short _ _ _ _ _ (by omega)]
  rfl
/-- All symbols one further. -/
def upS (x : Item) : Int := if x.cls = 0 then x.sym + 1 else x.sym
def up (g : List Rule) : List Rule := g.map (mapR (· + 1) upS)
def both : Rule := ⟨0, [⟨0, 1⟩, ⟨0, 1⟩]⟩
def pair (g : List Rule) : List Rule := up g ++ [both]
theorem pair_len (g : List Rule) : (pair g).length = g.length + 1 := by simp [pair, up]
theorem pair_rul (g : List Rule) {r : Nat} (h : r < g.length) : rul (pair g) r = mapR (· + 1) upS (rul g r) := by
  have e : rul (pair g) r = rul (up g) r := by
    unfold rul pair
    rw [List.getD_eq_getElem?_getD, List.getD_eq_getElem?_getD, List.getElem?_append_left (by simpa [up] using h)]
  rw [e]
  exact rul_mapR _ _ _ _ h
theorem pair_last (g : List Rule) : rul (pair g) g.length = both := by
  unfold rul pair
  rw [List.getD_eq_getElem?_getD, List.getElem?_append_right (by simp [up])]
  simp [up]
theorem pair_rules (g : List Rule) {s : Int} (hs : 0 ≤ s) : rulesOf (pair g) (s + 1) = rulesOf g s := by
  unfold rulesOf
  rw [pair_len, List.range_succ, List.filter_append, List.filter_cons, pair_last]
  rw [show decide (both.left = s + 1) = false from decide_eq_false (by show ¬ (0 : Int) = s + 1; omega)]
  simp only [Bool.false_eq_true, if_false, List.filter_nil, List.append_nil]
  refine List.filter_congr fun r hr => ?_
  rw [List.mem_range] at hr
  rw [pair_rul g hr]
  show decide ((rul g r).left + 1 = s + 1) = _
  by_cases e : (rul g r).left = s
  · rw [e]; simp
  · rw [decide_eq_false e, decide_eq_false (by omega)]
theorem pair_rules0 {g : List Rule} (hG : Good g) : rulesOf (pair g) 0 = [g.length] := by
  unfold rulesOf
  rw [pair_len, List.range_succ, List.filter_append, List.filter_cons, pair_last]
  rw [show decide (both.left = 0) = true from rfl]
  have : (List.range g.length).filter (fun r => decide ((rul (pair g) r).left = 0)) = [] := by
    rw [List.filter_eq_nil_iff]
    intro r hr
    rw [List.mem_range] at hr
    rw [pair_rul g hr]
    have h1 := (hG.ok r hr).parts.1
    simp only [decide_eq_true_eq]
    show ¬ (rul g r).left + 1 = 0
    omega
  rw [this]; rfl
theorem pair_T {g : List Rule} (hG : Good g) (hit : Nat → Int → Bool) : ∀ (f : Nat) (s : Int) (i j : Nat), 0 ≤ s → T (pair g) hit f (s + 1) i j = T g hit f s i j := by
  intro f
  induction f with
  | zero => intro s i j _; rfl
  | succ f ih =>
    intro s i j hs
    rw [T, T, pair_rules g hs]
    refine flatMap_same _ fun r hr => ?_
    have hlt := (mem_rulesOf.1 hr).1
    have e1 : (rul (pair g) r).right = (rul g r).right.map (mapI upS) := by
      rw [pair_rul g hlt]; rfl
    rw [e1, parts_map hit (T g hit f) (T (pair g) hit f) _ _ (fun x hx hc i j => ?_)]
    unfold upS
    rw [if_pos hc]
    exact ih _ i j ((hG.ok r hlt).parts.2.2.2 x hx).1.1
theorem pair_good {g : List Rule} (hG : Good g) (hl : g.length < 200) (h1 : ∀ r, r < g.length → (rul g r).left + 1 < 64) (h2 : ∀ r, r < g.length → ∀ x ∈ (rul g r).right, x.cls = 0 → x.sym + 1 < 64) : Good (pair g) := by
  obtain ⟨ρ, hR⟩ := hG.ranked
  refine ⟨by rw [pair_len]; omega, fun r hr => ?_, fun s => ρ (s - 1), fun s => hR.le _, fun r hr x hx hc => ?_⟩
  · rw [pair_len] at hr
    by_cases hr2 : r < g.length
    · obtain ⟨h3, h4, h5, h6⟩ := (hG.ok r hr2).parts
      rw [pair_rul g hr2]
      refine ruleOk_of ⟨by show 0 ≤ (rul g r).left + 1; omega, h1 r hr2⟩ (by simp [mapR]; exact ⟨h4, h5⟩) fun x hx => ?_
      obtain ⟨y, hy, rfl⟩ := List.mem_map.1 hx
      obtain ⟨h7, h8⟩ := h6 y hy
      show (0 ≤ upS y ∧ upS y < 64) ∧ (y.cls = 0 ∨ upS y = 0)
      unfold upS
      split
      · rename_i hy0
        exact ⟨⟨by omega, h2 r hr2 y hy hy0⟩, .inl hy0⟩
      · rename_i hy0
        exact ⟨h7, .inr (h8.resolve_left hy0)⟩
    · obtain rfl : r = g.length := by omega
      rw [pair_last]
      exact ruleOk_of (by decide) (by decide) (by intro x hx; simp only [both, List.mem_cons, List.not_mem_nil, or_false, or_self] at hx; subst hx; decide)
  · rw [pair_len] at hr
    by_cases hr2 : r < g.length
    · rw [pair_rul g hr2] at hx ⊢
      have hx2 : (rul g r).right.map (mapI upS) = [x] := hx
      obtain ⟨y, hy, rfl⟩ := List.map_eq_singleton_iff.1 hx2
      show ρ (upS y - 1) < ρ ((rul g r).left + 1 - 1)
      have hc2 : y.cls = 0 := hc
      unfold upS
      rw [if_pos hc2, Int.add_sub_cancel, Int.add_sub_cancel]
      exact hR.dec r hr2 y hy hc2
    · obtain rfl : r = g.length := by omega
      rw [pair_last] at hx
      cases hx
end Gr
namespace Go.Proofs.Ytkclifdbdnigaaa
open Go Go.RowKit
/-- What both sides have, for the first places. -/
def pairs (g : List Gr.Rule) (tk : List Int) : Nat → Nat
  | 0 => 0
  | k + 1 => pairs g tk k + counts g (tk.take k) * counts g (tk.drop k)
theorem pairs_le (g : List Gr.Rule) (tk : List Int) (k : Nat) : ∀ d, pairs g tk k ≤ pairs g tk (k + d)
  | 0 => Nat.le_refl _
  | d + 1 => Nat.le_trans (pairs_le g tk k d) (Nat.le_add_right _ _)
theorem hitf_take (tk : List Int) (k p : Nat) (c : Int) (h : p < k) : hitf (tk.take k) p c = hitf tk p c := by
  unfold hitf Ls.nth
  rw [List.getD_eq_getElem?_getD, List.getD_eq_getElem?_getD, List.getElem?_take, if_pos h]
theorem hitf_drop (tk : List Int) (k p : Nat) (c : Int) : hitf tk (p + k) c = hitf (tk.drop k) p c := by
  unfold hitf Ls.nth
  rw [List.getD_eq_getElem?_getD, List.getD_eq_getElem?_getD, List.getElem?_drop, Nat.add_comm]
theorem counts_take {g : List Gr.Rule} (hG : Gr.Good g) (tk : List Int) (k : Nat) (h : k ≤ tk.length) : counts g (tk.take k) = Gr.cnt g (hitf tk) tk.length 0 0 k := by
  obtain ⟨ρ, hR⟩ := hG.ranked
  unfold counts
  have hl : (tk.take k).length = k := by rw [List.length_take]; omega
  rw [hl]
  exact (Gr.cnt_shift hR (hitf tk) (hitf (tk.take k)) 0 tk.length k 0 0 k (fun p _ hp c => (hitf_take tk k p c hp).symm) (by omega) h).symm
theorem counts_drop {g : List Gr.Rule} (hG : Gr.Good g) (tk : List Int) (k : Nat) (h : k ≤ tk.length) : counts g (tk.drop k) = Gr.cnt g (hitf tk) tk.length 0 k tk.length := by
  obtain ⟨ρ, hR⟩ := hG.ranked
  unfold counts
  have hl : (tk.drop k).length = tk.length - k := List.length_drop
  rw [hl]
  have := (Gr.cnt_shift hR (hitf tk) (hitf (tk.drop k)) k tk.length (tk.length - k) 0 0 (tk.length - k) (fun p _ _ c => hitf_drop tk k p c) (by omega) (by omega)).symm
  rwa [Nat.zero_add, show tk.length - k + k = tk.length from by omega] at this
theorem pairs_upto {g : List Gr.Rule} (hG : Gr.Good g) (tk : List Int) : ∀ k, k ≤ tk.length → pairs g tk (k + 1) = Gr.upto (hitf tk) (Gr.D (Gr.pair g) (hitf tk) tk.length) ⟨0, 1⟩ [⟨0, 1⟩] 0 tk.length k
  | 0, _ => by
    show 0 + _ * _ = 0
    rw [counts_take hG tk 0 (by omega), Gr.cnt_empty hG]
    simp
  | k + 1, hk => by
    show pairs g tk (k + 1) + _ * _ = _
    rw [pairs_upto hG tk k (by omega), Gr.upto_succ, counts_take hG tk _ hk, counts_drop hG tk _ hk, show 0 + 1 + k = k + 1 from by omega]
    have e1 : (Gr.D (Gr.pair g) (hitf tk) tk.length (⟨0, 1⟩ : Gr.Item).sym 0 (k + 1)).length = Gr.cnt g (hitf tk) tk.length 0 0 (k + 1) := congrArg List.length (Gr.pair_T hG (hitf tk) _ 0 0 (k + 1) (by decide))
    have e2 : (Gr.parts (hitf tk) (Gr.D (Gr.pair g) (hitf tk) tk.length) [⟨0, 1⟩] (k + 1) tk.length).length = Gr.cnt g (hitf tk) tk.length 0 (k + 1) tk.length := by
      by_cases h : k + 1 < tk.length
      · have := Gr.ways_one (g := Gr.pair g) (hit := hitf tk) (n := tk.length) (x := ⟨0, 1⟩) rfl h
        unfold Gr.ways at this
        rw [this]
        exact congrArg List.length (Gr.pair_T hG (hitf tk) _ 0 (k + 1) tk.length (by decide))
      · have e : k + 1 = tk.length := by omega
        rw [Gr.parts_short _ _ _ _ _ (by simp; omega), e, Gr.cnt_empty hG]; rfl
    rw [e1, e2]
theorem pair_counts {g : List Gr.Rule} (hG : Gr.Good g) (hP : Gr.Good (Gr.pair g)) (tk : List Int) : counts (Gr.pair g) tk = pairs g tk (tk.length + 1) := by
  obtain ⟨ρ, hR⟩ := hP.ranked
  rw [pairs_upto hG tk _ (Nat.le_refl _)]
  unfold counts
  rw [Gr.cnt_eq hR _ _ _ _ _ (by omega), Gr.pair_rules0 hG, List.map_cons, List.map_nil, List.sum_cons, List.sum_nil, Nat.add_zero, Gr.pair_last]
  exact Gr.len_sym _ _ _ _ _ rfl
end Go.Proofs.Ytkclifdbdnigaaa
end
section
/- Symbols that are moved up one by one: what is known of the limits. -/
namespace Gr
/-- The rules ahead of k, and q items of rule k, stay below the limit. -/
structure FitU (g : List Rule) (k q : Nat) (b : Bool) : Prop where
  l : ∀ r, r < k → (rul g r).left + 1 < 64
  r : ∀ r, r < k → ∀ x ∈ (rul g r).right, x.cls = 0 → x.sym + 1 < 64
  lk : b = true → (rul g k).left + 1 < 64
  rk : ∀ p, p < q → (itm (rul g k).right p).cls = 0 → (itm (rul g k).right p).sym + 1 < 64
theorem FitU.zero (g : List Rule) : FitU g 0 0 false := ⟨fun r h => by omega, fun r h => by omega, fun h => (by cases h), fun p h => (by omega)⟩
theorem FitU.left {g : List Rule} {k : Nat} (h : FitU g k 0 false) (hl : (rul g k).left + 1 < 64) : FitU g k 0 true := ⟨h.l, h.r, fun _ => hl, h.rk⟩
theorem FitU.item {g : List Rule} {k q : Nat} {b : Bool} (h : FitU g k q b) (hl : (itm (rul g k).right q).cls = 0 → (itm (rul g k).right q).sym + 1 < 64) : FitU g k (q + 1) b := ⟨h.l, h.r, h.lk, fun p hp => by
  by_cases e : p = q
  · subst e; exact hl
  · exact h.rk p (by omega)⟩
theorem FitU.next {g : List Rule} {k : Nat} (h : FitU g k (rul g k).right.length true) : FitU g (k + 1) 0 false := ⟨fun r hr => by
  by_cases e : r = k
  · subst e; exact h.lk rfl
  · exact h.l r (by omega), fun r hr x hx hc => by
  by_cases e : r = k
  · subst e
    obtain ⟨p, hp, rfl⟩ := List.mem_iff_getElem.1 hx
    have e1 : itm (rul g r).right p = (rul g r).right[p] := by unfold itm; rw [List.getD_eq_getElem?_getD, List.getElem?_eq_getElem hp]; rfl
    have := h.rk p hp
    rw [e1] at this
    exact this hc
  · exact h.r r (by omega) x hx hc, fun h => (by cases h), fun p h => (by omega)⟩
theorem stR_skip {fl : Int → Int} {fs : Item → Int} {g : List Rule} {k q : Nat} (hq : q < (rul g k).right.length) (he : fs (itm (rul g k).right q) = (itm (rul g k).right q).sym) : stR fl fs g k (q + 1) true = stR fl fs g k q true := ext_rul (by rw [stR_len, stR_len]) fun r hr => by
  rw [stR_len] at hr
  rw [stR_rul _ _ _ _ hr, stR_rul _ _ _ _ hr]
  split
  · rfl
  · split
    · rename_i hk
      subst hk
      have e2 := itm_set (fs := fs) (rul g r).right q hq
      rw [he] at e2
      have e3 : (((rul g r).right.take q).map (mapI fs) ++ (rul g r).right.drop q).set q (itm (rul g r).right q) = ((rul g r).right.take q).map (mapI fs) ++ (rul g r).right.drop q := by
        have hl : q < (((rul g r).right.take q).map (mapI fs) ++ (rul g r).right.drop q).length := by rw [stI_len]; exact hq
        have e4 := stI_get (fs := fs) (rul g r).right q hq
        have e5 : (((rul g r).right.take q).map (mapI fs) ++ (rul g r).right.drop q)[q] = itm (rul g r).right q := by
          rw [← e4]; unfold itm; rw [List.getD_eq_getElem?_getD, List.getElem?_eq_getElem hl]; rfl
        rw [← e5, List.set_getElem_self]
      rw [e2, show (⟨(itm (rul g r).right q).cls, (itm (rul g r).right q).sym⟩ : Item) = itm (rul g r).right q from rfl, e3]
    · rfl
theorem itm_at {fs : Item → Int} (l : List Item) (q : Nat) (hq : q < l.length) : itm ((l.take (q + 1)).map (mapI fs) ++ l.drop (q + 1)) q = ⟨(itm l q).cls, fs (itm l q)⟩ := by
  rw [itm_set _ _ hq]
  have hl : q < ((l.take q).map (mapI fs) ++ l.drop q).length := by rw [stI_len]; exact hq
  unfold itm
  rw [List.getD_eq_getElem?_getD, List.getElem?_set_self hl]
  rfl
theorem up_eq (g : List Rule) : g.map (mapR (· + 1) upS) = up g := rfl
end Gr
namespace Go.Proofs.Ytkclifdbdnigaaa
open Go Go.RowKit
theorem pair_wf {g : List Gr.Rule} (h : WfR g) : WfR (Gr.pair g) := fun r hr x hx => by
  rw [Gr.pair_len] at hr
  by_cases hr2 : r < g.length
  · rw [Gr.pair_rul g hr2] at hx
    obtain ⟨y, hy, rfl⟩ := List.mem_map.1 (show x ∈ (Gr.rul g r).right.map (Gr.mapI Gr.upS) from hx)
    exact h r hr2 y hy
  · obtain rfl : r = g.length := by omega
    rw [Gr.pair_last] at hx
    simp only [Gr.both, List.mem_cons, List.not_mem_nil, or_false, or_self] at hx
    subst hx
    decide
theorem pairs_fit {g : List Gr.Rule} (hG : Gr.Good g) (hP : Gr.Good (Gr.pair g)) {tk : List Int} (h : tk.length ≤ 30) {x a : Nat} (ha : a ≤ tk.length + 1) (hx : x ≤ pairs g tk a) : (Nt.limbs x).length ≤ 1024 := by
  obtain ⟨ρ, hR⟩ := hP.ranked
  refine Gr.limbs_fit fun K hK => Nat.lt_of_le_of_lt (Nat.le_trans hx ?_) (Gr.cnt_lt hR (by have := hP.len; omega) (hitf tk) tk.length 0 0 tk.length (by omega) (by omega) hK)
  have h1 := pairs_le g tk a (tk.length + 1 - a)
  rw [show a + (tk.length + 1 - a) = tk.length + 1 from by omega, ← pair_counts hG hP] at h1
  exact h1
theorem OG.pair {w w9 w5 : World} {base gg cap k : Nat} {v : Value} {g : List Gr.Rule} {G C : Nat → Nat} (h : OG w base v (Gr.up g) G C) (hk : g.length = k) (hbase : base ≤ w.heap.size)
    (hown : w5.ownsRow base 37 2 (.slice (some ⟨gg, 0, none⟩) (k + 1) cap) (k + 1) (flatR G C (Gr.up g) ++ [.int .i64 0, .slice (some ⟨w.heap.size, 0, none⟩) 2 2]))
    (hblk : Kt.Blk w9 w.heap.size 40 #[.int .u16 0, .int .i64 1, .int .u16 0, .int .i64 1]) (hgr : w9.grownBy w5 v.ownBlock) (hs9 : w9.heap.size = w.heap.size + 2) (h9 : ∀ q, q < w.heap.size → w9.heap[q]? = w.heap[q]?)
    (hat : v.ownBlock = some gg ∨ gg = w9.heap.size) : OG w5 base (.slice (some ⟨gg, 0, none⟩) (k + 1) cap) (Gr.pair g) (fun r => if r = k then w.heap.size else G r) (fun r => if r = k then 2 else C r) := by
  subst hk
  have e1 : (Gr.pair g).take g.length = Gr.up g := by
    unfold Gr.pair
    rw [List.take_left' (by simp [Gr.up])]
  have e2 : (Gr.pair g).take (g.length + 1) = Gr.pair g := List.take_of_length_le (by rw [Gr.pair_len]; exact Nat.le_refl _)
  have hvl : ∀ q, v.ownBlock = some q → q < w.heap.size := fun q e => (h.own.lt q e).2
  have hgo : w9.ownsRow w.heap.size 40 2 (.slice (some ⟨w.heap.size, 0, none⟩) 2 2) 2 [.int .u16 0, .int .i64 1, .int .u16 0, .int .i64 1] := ⟨rfl, .inr ⟨w.heap.size, 2, #[.int .u16 0, .int .i64 1, .int .u16 0, .int .i64 1], rfl, Nat.le_refl _, hblk, Nat.le_refl _, by decide, rfl, rfl⟩⟩
  have hgo5 : w5.ownsRow w.heap.size 40 2 (.slice (some ⟨w.heap.size, 0, none⟩) 2 2) 2 [.int .u16 0, .int .i64 1, .int .u16 0, .int .i64 1] := Kt.ownsRow_keep hgo fun q e => hgr.block q (hgo.lt q e).2 fun e2 => by
    have e9 : w.heap.size = q := by simpa [Value.ownBlock] using e
    have := hvl q e2.symm
    omega
  have hh := OG.snoc (w := w) (w2 := w5) (base := base) (k := g.length) (g2 := gg) (cap2 := cap) (gx := w.heap.size) (capx := 2) (v := v) (g := Gr.pair g) (G := G) (C := C) (by rw [e1]; exact h) (by rw [Gr.pair_len]; omega)
    (by rw [e1, Gr.pair_last]; exact hown) (by rw [Gr.pair_last]; exact hgo5) hbase
    (by rcases hat with e | e; exact .inl e; exact .inr (by omega)) (fun e => by
      rcases hat with e3 | e3
      · have := hvl gg e3; omega
      · omega) (Nat.le_refl _) (fun q hq hnq => (hgr.block q (by omega) fun e => hnq e.symm).trans (h9 q hq))
  rwa [e2] at hh
end Go.Proofs.Ytkclifdbdnigaaa
namespace Kt
open Go
theorem Ints.takeN {w : World} {B : Nat} {k : IntKind} {A : Option Addr} {zs : List Int} (h : Ints w B k A zs) (a : Nat) : Ints w B k A (zs.take a) := fun hp => by
  rw [List.length_take] at hp
  obtain ⟨b, off, e, hb, hc⟩ := h (by omega)
  refine ⟨b, off, e, hb, fun j hj => ?_⟩
  rw [List.length_take] at hj
  rw [hc j (by omega)]
  simp only [Ls.nth, List.getD_eq_getElem?_getD, List.getElem?_take, if_pos (show j < a by omega)]
theorem Ints.dropN {w : World} {B b off : Nat} {k : IntKind} {zs : List Int} (h : Ints w B k (some ⟨b, off, none⟩) zs) (a : Nat) : Ints w B k (some ⟨b, off + a, none⟩) (zs.drop a) := fun hp => by
  rw [List.length_drop] at hp
  obtain ⟨b', off', e, hb, hc⟩ := h (by omega)
  injection e with e
  injection e with e1 e2
  subst e1 e2
  refine ⟨_, _, rfl, hb, fun j hj => ?_⟩
  rw [List.length_drop] at hj
  rw [Nat.add_assoc, hc (a + j) (by omega)]
  simp only [Ls.nth, List.getD_eq_getElem?_getD, List.getElem?_drop]
theorem Ints.dropO {w : World} {B : Nat} {k : IntKind} {A : Option Addr} {zs : List Int} (h : Ints w B k A zs) (a : Nat) : Ints w B k (A.map fun x => x.add a) (zs.drop a) := fun hp => by
  have hp2 := hp
  rw [List.length_drop] at hp2
  obtain ⟨b, off, e, hb, hc⟩ := h (by omega)
  subst e
  rw [Option.map_some, Addr.add_lit]
  exact (Ints.dropN h a) hp
end Kt
end
section
/- The walk of GrammarPair. -/
namespace Go.Proofs.Ytkclifdbdnigaaa
open Go Go.RowKit
set_option maxRecDepth 100000 in
set_option maxHeartbeats 4000000 in
theorem walk_GrammarPair (w : World) (A : Option Addr) (cp : Nat) (g : List Gr.Rule) (lg : g.length ≤ 4398046511104) (hg : Kt.Rules w w.heap.size A g) (wg : WfR g)
    (T : Option Addr) (ct : Nat) (tk : List Int) (lt : tk.length ≤ ct) (_mt : ct ≤ maxLen) (ht : Kt.Ints w w.heap.size .u16 T tk) (_wt : ∀ i ∈ tk, (Lit.int .u16 i).wf = true) (zt : tk.length * 2 ≤ 140737488351232) (_kt : T = none → ct = 0) :
    Calls Try.prog 5 #[.slice A g.length cp, .slice T tk.length ct] w fun e w' => e = .returned (.bool true) ∧ Below w.heap.size w w' := by
  obtain ⟨n, hn⟩ : ∃ n, Hid (g.length = n) := ⟨_, Lib.hid rfl⟩
  obtain ⟨nt, hnt⟩ : ∃ nt, Hid (tk.length = nt) := ⟨_, Lib.hid rfl⟩
  rw [hn.out] at lg
  rw [hnt.out] at zt lt
  rw [hn.out, hnt.out]
  have HG := Lib.hid hg
  have HT := Lib.hid ht
  have HW := Lib.hid wg
  have HLT := Lib.hid lt
  clear hg ht wg lt _mt _wt
  obtain ⟨i0, hi0, hz0, hz1, hz2⟩ := info_parts Try.infoRule
  go_enter Try.func5, Try.ntmps5
  go_wp2_with fail
  refine (awake_any w).mono ?_
  rintro e w1 ⟨rfl, hb1⟩
  go_wp2_with fail
  refine (great_any g nt A n cp T ct w1 hn.out (by omega) (HG.out.on hb1)).mono ?_
  rintro e w2 ⟨rfl, ⟨rfl, hfine⟩ | rfl⟩
  · go_wp2_with fail
    refine (Valid_any g A n cp w1 hn.out (by omega) (HG.out.on hb1)).mono ?_
    rintro e w3 ⟨hb3, c, rfl, hc⟩
    have hb3' : Below w.heap.size w w3 := hb1.trans (hb3.mono hb1.size)
    by_cases hcz : c = 0
    · subst hcz
      have hGood := hc.good.1 rfl
      by_cases hnt12 : 12 < nt
      · have d1 : decide ((nt : Int) > 12) = true := by simp; omega
        clear hc
        go_wp2_with fail
        go_ret
        exact ⟨rfl, hb3'⟩
      · have d1 : decide ((nt : Int) > 12) = false := by simp; omega
        by_cases hn200 : 200 ≤ n
        · have d2 : decide ((n : Int) ≥ 200) = true := by simp; omega
          clear hc
          go_wp2_with fail
          go_ret
          exact ⟨rfl, hb3'⟩
        · have d2 : decide ((n : Int) ≥ 200) = false := by simp; omega
          have HGD := Lib.hid hGood
          have hs3 := hb3'.size
          clear hc hGood hfine
          go_wp2_with fail
          refine (copyRules_any g HGD.out A n cp w3 hn.out (HG.out.on hb3')).mono ?_
          rintro e w4 ⟨hb4, v, G, C, rfl, hO⟩
          have hr8 : ∀ r, r < g.length → (Gr.rul g r).right.length ≤ 8 := fun r hr => (HGD.out.ok r hr).parts.2.2.1
          obtain ⟨A', cz, rfl, _⟩ := hO.rules (fun r hr => by have := hr8 r hr; omega)
          rw [hn.out] at hO
          have HO := Lib.hid hO
          have HR8 := Lib.hid hr8
          have hs4 := hb4.size
          rw [hn.out]
          clear hO hr8
          go_wp2_with fail
          go_loopw [6] (fun s wr => ∃ k : Nat, k ≤ n ∧ s = .int .i64 k ∧ Hid (OG wr w3.heap.size (.slice A' n cz) (Gr.stR (· + 1) Gr.upS g k 0 false) G C) ∧ Hid (Gr.FitU g k 0 false) ∧ Below w3.heap.size w3 wr) (fun s _ => n - (intOf s).toNat)
          case atStart => exact ⟨0, Nat.zero_le _, rfl, Lib.hid (by rw [Gr.stR_zero]; exact HO.out), Lib.hid (Gr.FitU.zero g), hb4⟩
          case round =>
            obtain ⟨k, hk, rfl, hOk, hFk, hbel⟩ := hrel
            have hsr := hbel.size
            by_cases hlt : k < n
            · have hkg : k < g.length := by rw [hn.out]; exact hlt
              obtain ⟨hl0, hl1, hl8, _⟩ := (HGD.out.ok k hkg).parts
              obtain ⟨gb, cap9, he9, hgb1, hgb2⟩ := hOk.out.own.form (by rw [Gr.stR_len]; omega)
              injection he9 with he9 hx1 hx2
              subst he9
              clear hx1 hx2
              have hrk : Gr.rul (Gr.stR (· + 1) Gr.upS g k 0 false) k = Gr.rul g k := by
                rw [Gr.stR_rul _ _ _ _ hkg, if_neg (Nat.lt_irrefl _), if_pos rfl]
                simp
              obtain ⟨hc1, hc2, hf1⟩ := hOk.out.cellL (r := k) (by rw [Gr.stR_len]; exact hkg)
              rw [hrk] at hc1 hc2
              obtain ⟨lf, hlf⟩ : ∃ lf, Hid ((Gr.rul g k).left = lf) := ⟨_, Lib.hid rfl⟩
              obtain ⟨m, hm⟩ : ∃ m, Hid ((Gr.rul g k).right.length = m) := ⟨_, Lib.hid rfl⟩
              obtain ⟨gi, hgi⟩ : ∃ gi, Hid (G k = gi) := ⟨_, Lib.hid rfl⟩
              obtain ⟨cq, hcq⟩ : ∃ cq, Hid (C k = cq) := ⟨_, Lib.hid rfl⟩
              rw [hlf.out] at hc1 hl0
              rw [hm.out, hgi.out, hcq.out] at hc2
              rw [hm.out] at hl8
              clear hl1 hrk
              have wl : IntKind.i64.wrap (lf + 1) = lf + 1 := IntWalk.i64_in _ (by omega)
              have hO1 : Hid (OG (wr.setCell ⟨gb, k * 2, none⟩ (.int .i64 (lf + 1))) w3.heap.size (.slice (some ⟨gb, 0, none⟩) n cz) (Gr.stR (· + 1) Gr.upS g k 0 true) G C) := Lib.hid (by
                refine OG.setLeft (r := k) hOk.out (by rw [Gr.stR_len, hn.out]) (by rw [Gr.stR_len]; exact hkg) (by rw [Gr.stR_len, Gr.stR_len]) (fun r hr hne => ?_) ?_ ?_
                · rw [Gr.stR_len] at hr
                  rw [Gr.stR_rul _ _ _ _ hr, Gr.stR_rul _ _ _ _ hr, if_neg hne, if_neg hne]
                · rw [Gr.stR_rul _ _ _ _ hkg, if_neg (Nat.lt_irrefl _), if_pos rfl, ← hlf.out]; rfl
                · rw [Gr.stR_rul _ _ _ _ hkg, Gr.stR_rul _ _ _ _ hkg, if_neg (Nat.lt_irrefl _), if_pos rfl]; simp)
              have hbel1 : Below w3.heap.size w3 (wr.setCell ⟨gb, k * 2, none⟩ (.int .i64 (lf + 1))) := hbel.setCell (p := ⟨gb, k * 2, none⟩) hgb1 _
              clear hOk hc2
              by_cases h64 : lf + 1 < 64
              · have d3 : decide (lf + 1 ≥ 64) = false := by simp; omega
                have hF1 : Hid (Gr.FitU g k 0 true) := Lib.hid (hFk.out.left (by rw [hlf.out]; exact h64))
                clear hFk hl0
                go_wp2_with fail
                clear hc1 hf1 d3 h64 wl
                obtain ⟨wo, hwo⟩ : ∃ wo, wr.setCell ⟨gb, k * 2, none⟩ (.int .i64 (lf + 1)) = wo := ⟨_, rfl⟩
                rw [hwo] at hO1 hbel1 ⊢
                clear hwo hbel hsr
                go_loopw [7] (fun s wr => ∃ q : Nat, q ≤ m ∧ s = .int .i64 q ∧ Hid (OG wr w3.heap.size (.slice (some ⟨gb, 0, none⟩) n cz) (Gr.stR (· + 1) Gr.upS g k q true) G C) ∧ Hid (Gr.FitU g k q true) ∧ Below w3.heap.size w3 wr) (fun s _ => m - (intOf s).toNat)
                case atStart => exact ⟨0, Nat.zero_le _, rfl, hO1, hF1, hbel1⟩
                case round =>
                  obtain ⟨q, hq, rfl, hOq, hFq, hbel⟩ := hrel
                  have hsr := hbel.size
                  have hrk : Gr.rul (Gr.stR (· + 1) Gr.upS g k q true) k = ⟨(Gr.rul g k).left + 1, ((Gr.rul g k).right.take q).map (Gr.mapI Gr.upS) ++ (Gr.rul g k).right.drop q⟩ := by
                    rw [Gr.stR_rul _ _ _ _ hkg, if_neg (Nat.lt_irrefl _), if_pos rfl]; rfl
                  obtain ⟨hc1, hc2, _⟩ := hOq.out.cellL (r := k) (by rw [Gr.stR_len]; exact hkg)
                  rw [hrk, Gr.stI_len, hm.out, hgi.out, hcq.out] at hc2
                  by_cases hqm : q < m
                  · have hqr : q < (Gr.rul g k).right.length := by rw [hm.out]; exact hqm
                    obtain ⟨hc0, hc3, hf3⟩ := hOq.out.cellI (r := k) (q := q) (by rw [Gr.stR_len]; exact hkg) (by rw [hrk, Gr.stI_len]; exact hqr)
                    rw [hrk, Gr.stI_get _ _ hqr, hgi.out] at hc3 hc0
                    rw [hgi.out] at hf3
                    have hib := (HGD.out.ok k hkg).parts.2.2.2 (Gr.itm (Gr.rul g k).right q) (by unfold Gr.itm; rw [List.getD_eq_getElem?_getD, List.getElem?_eq_getElem hqr]; exact List.getElem_mem _)
                    obtain ⟨sy, hsy⟩ : ∃ sy, Hid ((Gr.itm (Gr.rul g k).right q).sym = sy) := ⟨_, Lib.hid rfl⟩
                    obtain ⟨cl, hcl⟩ : ∃ cl, Hid ((Gr.itm (Gr.rul g k).right q).cls = cl) := ⟨_, Lib.hid rfl⟩
                    rw [hsy.out] at hc3 hib
                    rw [hcl.out] at hc0
                    have hgi1 : w3.heap.size ≤ gi := by
                      have := ((hOq.out.its k (by rw [Gr.stR_len]; exact hkg)).lt (G k) rfl).1
                      rw [hgi.out] at this; exact this
                    have hib1 := hib.1
                    clear hib
                    by_cases hc00 : cl = 0
                    · have dc : (!(cl == 0)) = false := by simp [hc00]
                      have ws : IntKind.i64.wrap (sy + 1) = sy + 1 := IntWalk.i64_in _ (by omega)
                      have hO2 : Hid (OG (wr.setCell ⟨gi, q * 2 + 1, none⟩ (.int .i64 (sy + 1))) w3.heap.size (.slice (some ⟨gb, 0, none⟩) n cz) (Gr.stR (· + 1) Gr.upS g k (q + 1) true) G C) := Lib.hid (by
                        rw [← hgi.out]
                        refine OG.setSym (r := k) (q := q) hOq.out (by rw [Gr.stR_len]; exact hkg) (by rw [hrk, Gr.stI_len]; exact hqr) (by rw [Gr.stR_len, Gr.stR_len]) (fun r hr hne => ?_) ?_ ?_
                        · rw [Gr.stR_len] at hr
                          rw [Gr.stR_rul _ _ _ _ hr, Gr.stR_rul _ _ _ _ hr, if_neg hne, if_neg hne]
                        · rw [hrk, Gr.stR_rul _ _ _ _ hkg, if_neg (Nat.lt_irrefl _), if_pos rfl]; rfl
                        · rw [hrk, Gr.stR_rul _ _ _ _ hkg, if_neg (Nat.lt_irrefl _), if_pos rfl]
                          show ((Gr.rul g k).right.take (q + 1)).map _ ++ (Gr.rul g k).right.drop (q + 1) = _
                          rw [Gr.itm_set _ _ hqr, Gr.stI_get _ _ hqr]
                          unfold Gr.upS
                          rw [hcl.out, if_pos hc00, hsy.out])
                      have hbel2 : Below w3.heap.size w3 (wr.setCell ⟨gi, q * 2 + 1, none⟩ (.int .i64 (sy + 1))) := hbel.setCell (p := ⟨gi, q * 2 + 1, none⟩) hgi1 _
                      have hrk2 : Gr.rul (Gr.stR (· + 1) Gr.upS g k (q + 1) true) k = ⟨(Gr.rul g k).left + 1, ((Gr.rul g k).right.take (q + 1)).map (Gr.mapI Gr.upS) ++ (Gr.rul g k).right.drop (q + 1)⟩ := by
                        rw [Gr.stR_rul _ _ _ _ hkg, if_neg (Nat.lt_irrefl _), if_pos rfl]; rfl
                      obtain ⟨_, hz2, _⟩ := hO2.out.cellL (r := k) (by rw [Gr.stR_len]; exact hkg)
                      rw [hrk2, Gr.stI_len, hm.out, hgi.out, hcq.out] at hz2
                      obtain ⟨_, hz3, _⟩ := hO2.out.cellI (r := k) (q := q) (by rw [Gr.stR_len]; exact hkg) (by rw [hrk2, Gr.stI_len]; exact hqr)
                      rw [hrk2, Gr.itm_at _ _ hqr, hgi.out, show (⟨(Gr.itm (Gr.rul g k).right q).cls, Gr.upS (Gr.itm (Gr.rul g k).right q)⟩ : Gr.Item).sym = Gr.upS (Gr.itm (Gr.rul g k).right q) from rfl, show Gr.upS (Gr.itm (Gr.rul g k).right q) = sy + 1 from by unfold Gr.upS; rw [hcl.out, if_pos hc00, hsy.out]] at hz3
                      clear hOq hrk hrk2
                      by_cases hs64 : sy + 1 < 64
                      · have d4 : decide (sy + 1 ≥ 64) = false := by simp; omega
                        have hF2 : Hid (Gr.FitU g k (q + 1) true) := Lib.hid (hFq.out.item (fun _ => by rw [hsy.out]; exact hs64))
                        clear hFq hib1 hs64
                        subst hc00
                        go_wp2_with fail
                        go_roundw
                        case rel => exact ⟨q + 1, by omega, by go_num, hO2, hF2, hbel2⟩
                        case measure => simp [intOf]; omega
                      · have d4 : decide (sy + 1 ≥ 64) = true := by simp; omega
                        clear hFq hib1
                        subst hc00
                        have hbz : Below w.heap.size w (wr.setCell ⟨gi, q * 2 + 1, none⟩ (.int .i64 (sy + 1))) := hb3'.trans (hbel2.mono hs3)
                        go_wp2_with fail
                        go_ret
                        exact ⟨rfl, hbz⟩
                    · have dc : (!(cl == 0)) = true := by simp [hc00]
                      have hO2 : Hid (OG wr w3.heap.size (.slice (some ⟨gb, 0, none⟩) n cz) (Gr.stR (· + 1) Gr.upS g k (q + 1) true) G C) := Lib.hid (by
                        rw [Gr.stR_skip hqr (by unfold Gr.upS; rw [hcl.out, if_neg hc00])]
                        exact hOq.out)
                      have hF2 : Hid (Gr.FitU g k (q + 1) true) := Lib.hid (hFq.out.item (fun h => absurd (hcl.out.symm.trans h) hc00))
                      clear hOq hrk hFq hib1
                      go_wp2_with fail
                      go_roundw
                      case rel => exact ⟨q + 1, by omega, by go_num, hO2, hF2, hbel⟩
                      case measure => simp [intOf]; omega
                  · obtain rfl : q = m := by omega
                    have hO3 : Hid (OG wr w3.heap.size (.slice (some ⟨gb, 0, none⟩) n cz) (Gr.stR (· + 1) Gr.upS g (k + 1) 0 false) G C) := Lib.hid (by
                      rw [← Gr.stR_next, hm.out]; exact hOq.out)
                    have hF3 : Hid (Gr.FitU g (k + 1) 0 false) := Lib.hid (by
                      have := hFq.out
                      rw [← hm.out] at this
                      exact this.next)
                    clear hOq hrk hc1 hFq
                    go_wp2_with fail
                    go_roundw
                    case rel =>
                      exact ⟨k + 1, by omega, by go_num, hO3, hF3, hbel⟩
                    case measure => simp [intOf]; omega
              · have d3 : decide (lf + 1 ≥ 64) = true := by simp; omega
                have hbz : Below w.heap.size w (wr.setCell ⟨gb, k * 2, none⟩ (.int .i64 (lf + 1))) := hb3'.trans (hbel1.mono hs3)
                clear hO1 hFk hl0
                go_wp2_with fail
                go_ret
                exact ⟨rfl, hbz⟩
            · obtain rfl : k = n := by omega
              have hO4 : Hid (OG wr w3.heap.size (.slice A' k cz) (Gr.up g) G C) := Lib.hid (by
                have := hOk.out
                rw [← hn.out, Gr.stR_all] at this
                rw [← hn.out]
                exact this)
              have hGn : Hid (Gr.Good (Gr.pair g)) := Lib.hid (Gr.pair_good HGD.out (by rw [hn.out]; omega) (fun r hr => hFk.out.l r (by rw [← hn.out]; exact hr)) (fun r hr => hFk.out.r r (by rw [← hn.out]; exact hr)))
              have hbw : Below w.heap.size w wr := hb3'.trans (hbel.mono hs3)
              have hsw := hbw.size
              obtain ⟨xs, hxs⟩ : ∃ xs, Hid (flatR G C (Gr.up g) = xs) := ⟨_, Lib.hid rfl⟩
              have hul : (Gr.up g).length = k := by rw [← hn.out]; exact List.length_map _
              have hown : wr.ownsRow w3.heap.size 37 2 (.slice A' k cz) k xs := by
                have := hO4.out.own
                rwa [hul, hxs.out] at this
              have hown2 : ((wr.alloc (.cells #[.int .u16 0, .int .i64 1, .int .u16 0, .int .i64 1] 40)).alloc (.cells #[.int .i64 0, .slice (some ⟨wr.heap.size, 0, none⟩) 2 2] 37)).ownsRow w3.heap.size 37 2 (.slice A' k cz) k xs := (hown.alloc _).alloc _
              have hbk2 : Kt.Blk ((wr.alloc (.cells #[.int .u16 0, .int .i64 1, .int .u16 0, .int .i64 1] 40)).alloc (.cells #[.int .i64 0, .slice (some ⟨wr.heap.size, 0, none⟩) 2 2] 37)) (wr.heap.size + 1) 37 #[.int .i64 0, .slice (some ⟨wr.heap.size, 0, none⟩) 2 2] := Kt.Blk.new' _ _ _ _ (by simp)
              have hbk1 : Kt.Blk ((wr.alloc (.cells #[.int .u16 0, .int .i64 1, .int .u16 0, .int .i64 1] 40)).alloc (.cells #[.int .i64 0, .slice (some ⟨wr.heap.size, 0, none⟩) 2 2] 37)) wr.heap.size 40 #[.int .u16 0, .int .i64 1, .int .u16 0, .int .i64 1] := (Kt.Blk.new wr _ _).alloc _
              have HBK1 := Lib.hid hbk1
              have HOW := Lib.hid hown
              have hgn : ∀ q, (Value.slice A' k cz).ownBlock = some q → w3.heap.size ≤ q := fun q e => (HOW.out.lt q e).1
              clear hOk hFk HO HR8 hown hbk1
              go_wp2_with (at_builtin; go_loud (refine wpList_append_lies _ rfl (.tmp 102) (.tmp 107) 22 rfl w3.heap.size 37 i0 (.agg #[.int .i64 0, .slice none 0 0]) 2 32 Try.underlying22 hi0 hz0 hz1 hz2 rfl (by decide) _ k xs rfl hown2 ⟨wr.heap.size + 1, 0, none⟩ 1 1 [.int .i64 0, .slice (some ⟨wr.heap.size, 0, none⟩) 2 2] rfl rfl (World.news_of_block hbk2) (by intro u hu; simp at hu; rcases hu with rfl | rfl <;> rfl) (by decide) (by unfold maxLen; omega) (by omega) (by simp; omega) _ rfl ?_))
              intro gg cap w5 hown5 hgr5 hat5 hlt5
              have hO5 := OG.pair (w := wr) (base := w3.heap.size) (cap := cap) (gg := gg) (w5 := w5) hO4.out hn.out hsr (by rw [hxs.out]; exact hown5) HBK1.out hgr5 (by simp) (fun q hq => (((Below.refl wr.heap.size wr).alloc (Nat.le_refl _) _).alloc (by simp) _).block q hq) (by simpa using hat5)
              have hRn : Hid (Kt.Rules w5 w5.heap.size (some ⟨gg, 0, none⟩) (Gr.pair g)) := Lib.hid (OG.rules' (n := k + 1) (c := cap) (by have := hO5; exact this) (fun r hr => by have := (hGn.out.ok r hr).parts.2.2.1; omega))
              have hbw5 : Below w.heap.size w w5 := ((hbw.alloc hsw _).alloc (by simp; omega) _).grown hgr5 (by simp; omega) (fun q hq => Nat.le_trans hs3 (hgn q hq))
              have hs5 := hbw5.size
              clear hO5 hown5 hgr5 hat5 HBK1 HOW hown2 hbk2 hO4 hbel hlt5 hgn hbw hsw hsr
              go_wp2_with fail
              refine (of_any 0 0 w5 rfl (by decide)).mono ?_
              rintro e w6 ⟨⟨v0, rfl, hv0⟩, hb6⟩
              have hbw6 : Below w.heap.size w w6 := hbw5.trans (hb6.mono hs5)
              have hs6 := hb6.size
              have HV0 := Lib.hid hv0
              clear hv0
              go_wp2_with fail
              go_loopw [8, 9] (fun u s wr => ∃ a : Nat, a ≤ nt + 1 ∧ s = .int .i64 a ∧ Hid (Kt.Num wr w5.heap.size u (pairs g tk a)) ∧ Below w5.heap.size w5 wr) (fun _ s _ => nt + 1 - (intOf s).toNat)
              case atStart => exact ⟨0, Nat.zero_le _, rfl, HV0, hb6⟩
              case round =>
                obtain ⟨a, ha, rfl, hU, hbl⟩ := hrel
                have hbw7 : Below w.heap.size w wr := hbw5.trans (hbl.mono hs5)
                by_cases hle : a ≤ nt
                · have dl : decide ((a : Int) ≤ nt) = true := by simp; omega
                  have hact : a ≤ ct := Nat.le_trans hle HLT.out
                  have hlT : (tk.take a).length = a := by rw [List.length_take, hnt.out]; omega
                  have hlD : (tk.drop a).length = nt - a := by rw [List.length_drop, hnt.out]
                  go_wp2_with fail
                  refine (Count_any g (tk.take a) A k cp T a ct wr hn.out (by omega) hlT (by omega) (by omega) HW.out (HG.out.on hbw7) ((HT.out.on hbw7).takeN a)).mono ?_
                  rintro e w8 ⟨hb8, v8, c, rfl, hk8, hv8⟩
                  obtain rfl : c = 0 := hk8.good.2 ⟨HGD.out, by rw [hlT]; omega⟩
                  rw [if_pos rfl] at hv8
                  have hs7 := hbl.size
                  have hbl8 : Below w5.heap.size w5 w8 := hbl.trans (hb8.mono hs7)
                  have hbw8 : Below w.heap.size w w8 := hbw5.trans (hbl8.mono hs5)
                  have hs8 := hb8.size
                  have HV8 := Lib.hid hv8
                  have HU8 := Lib.hid (hU.out.on hb8)
                  clear hk8 hv8 hU hlT
                  have HF1 : Hid ((Nt.limbs (counts g (tk.take a))).length ≤ 1024) := Lib.hid (counts_fit HGD.out (by rw [List.length_take, hnt.out]; omega))
                  have HF2 : Hid ((Nt.limbs (counts g (tk.drop a))).length ≤ 1024) := Lib.hid (counts_fit HGD.out (by rw [List.length_drop, hnt.out]; omega))
                  have HF3 : Hid ((Nt.limbs (counts g (tk.take a) * counts g (tk.drop a))).length ≤ 1024) := Lib.hid (pairs_fit HGD.out hGn.out (by rw [hnt.out]; omega) (a := a + 1) (by rw [hnt.out]; omega) (Nat.le_add_left _ _))
                  have HF4 : Hid ((Nt.limbs (pairs g tk a)).length ≤ 1024) := Lib.hid (pairs_fit HGD.out hGn.out (by rw [hnt.out]; omega) (a := a) (by rw [hnt.out]; omega) (Nat.le_refl _))
                  have HF5 : Hid ((Nt.limbs (pairs g tk a + counts g (tk.take a) * counts g (tk.drop a))).length ≤ 1024) := Lib.hid (pairs_fit HGD.out hGn.out (by rw [hnt.out]; omega) (a := a + 1) (by rw [hnt.out]; omega) (Nat.le_refl _))
                  by_cases hca : a = ct
                  · have hnil : tk.drop a = [] := List.drop_eq_nil_of_le (by rw [hnt.out, hca]; exact HLT.out)
                    have hI2 : Hid (Kt.Ints w8 w8.heap.size .u16 T (tk.drop a)) := Lib.hid (by rw [hnil]; exact Kt.Ints.nil)
                    subst hca
                    clear hnil
                    go_wp2_with fail
                    refine (Count_any g (tk.drop a) A k cp T (nt - a) 0 w8 hn.out (by omega) hlD (by omega) (by omega) HW.out (HG.out.on hbw8) hI2.out).mono ?_
                    rintro e w9 ⟨hb9, v9, c, rfl, hk9, hv9⟩
                    obtain rfl : c = 0 := hk9.good.2 ⟨HGD.out, by rw [hlD]; omega⟩
                    rw [if_pos rfl] at hv9
                    have hbl9 : Below w5.heap.size w5 w9 := hbl8.trans (hb9.mono (by omega))
                    have hbw9 : Below w.heap.size w w9 := hbw5.trans (hbl9.mono hs5)
                    have hs9 := hb9.size
                    have HV9 := Lib.hid hv9
                    have HV8b := Lib.hid (HV8.out.on hb9)
                    have HU9 := Lib.hid (HU8.out.on hb9)
                    clear hk9 hv9 HV8 HU8 hI2
                    go_wp2_with fail
                    refine (mul_num HV8b.out HV9.out HF1.out HF2.out).mono ?_
                    rintro e w10 ⟨h10, hb10⟩
                    obtain ⟨v10, rfl, hv10⟩ : ∃ v, e = .returned (.tuple #[v, .int .i64 0]) ∧ Kt.Num w10 w9.heap.size v (counts g (tk.take a) * counts g (tk.drop a)) := by
                      rcases h10 with ⟨_, h⟩ | ⟨hlong, _⟩
                      · exact h
                      · exact absurd HF3.out (by omega)
                    clear h10
                    have hbl10 : Below w5.heap.size w5 w10 := hbl9.trans (hb10.mono (by omega))
                    have hs10 := hb10.size
                    have HV10 := Lib.hid hv10
                    have HU10 := Lib.hid (HU9.out.on hb10)
                    clear hv10 HU9 HV8b HV9
                    go_wp2_with fail
                    refine (add_num HU10.out HV10.out HF4.out HF3.out).mono ?_
                    rintro e w11 ⟨h11, hb11⟩
                    obtain ⟨v11, rfl, hv11⟩ : ∃ v, e = .returned (.tuple #[v, .int .i64 0]) ∧ Kt.Num w11 w10.heap.size v (pairs g tk a + counts g (tk.take a) * counts g (tk.drop a)) := by
                      rcases h11 with ⟨_, h⟩ | ⟨hlong, _⟩
                      · exact h
                      · exact absurd HF5.out (by omega)
                    clear h11
                    have hbl11 : Below w5.heap.size w5 w11 := hbl10.trans (hb11.mono (by omega))
                    have HV11 : Hid (Kt.Num w11 w5.heap.size v11 (pairs g tk (a + 1))) := Lib.hid (hv11.less (by omega))
                    clear hv11 HU10 HV10
                    go_wp2_with fail
                    go_roundw
                    case rel => exact ⟨a + 1, by omega, by go_num, HV11, hbl11⟩
                    case measure => simp [intOf]; omega
                  · have hca2 : ¬ ct = a := fun h => hca h.symm
                    have hI2 : Hid (Kt.Ints w8 w8.heap.size .u16 (Option.map (fun x => x.add a) T) (tk.drop a)) := Lib.hid ((HT.out.on hbw8).dropO a)
                    go_wp2_with fail
                    refine (Count_any g (tk.drop a) A k cp (Option.map (fun x => x.add a) T) (nt - a) (ct - a) w8 hn.out (by omega) hlD (by omega) (by omega) HW.out (HG.out.on hbw8) hI2.out).mono ?_
                    rintro e w9 ⟨hb9, v9, c, rfl, hk9, hv9⟩
                    obtain rfl : c = 0 := hk9.good.2 ⟨HGD.out, by rw [hlD]; omega⟩
                    rw [if_pos rfl] at hv9
                    have hbl9 : Below w5.heap.size w5 w9 := hbl8.trans (hb9.mono (by omega))
                    have hbw9 : Below w.heap.size w w9 := hbw5.trans (hbl9.mono hs5)
                    have hs9 := hb9.size
                    have HV9 := Lib.hid hv9
                    have HV8b := Lib.hid (HV8.out.on hb9)
                    have HU9 := Lib.hid (HU8.out.on hb9)
                    clear hk9 hv9 HV8 HU8 hI2
                    go_wp2_with fail
                    refine (mul_num HV8b.out HV9.out HF1.out HF2.out).mono ?_
                    rintro e w10 ⟨h10, hb10⟩
                    obtain ⟨v10, rfl, hv10⟩ : ∃ v, e = .returned (.tuple #[v, .int .i64 0]) ∧ Kt.Num w10 w9.heap.size v (counts g (tk.take a) * counts g (tk.drop a)) := by
                      rcases h10 with ⟨_, h⟩ | ⟨hlong, _⟩
                      · exact h
                      · exact absurd HF3.out (by omega)
                    clear h10
                    have hbl10 : Below w5.heap.size w5 w10 := hbl9.trans (hb10.mono (by omega))
                    have hs10 := hb10.size
                    have HV10 := Lib.hid hv10
                    have HU10 := Lib.hid (HU9.out.on hb10)
                    clear hv10 HU9 HV8b HV9
                    go_wp2_with fail
                    refine (add_num HU10.out HV10.out HF4.out HF3.out).mono ?_
                    rintro e w11 ⟨h11, hb11⟩
                    obtain ⟨v11, rfl, hv11⟩ : ∃ v, e = .returned (.tuple #[v, .int .i64 0]) ∧ Kt.Num w11 w10.heap.size v (pairs g tk a + counts g (tk.take a) * counts g (tk.drop a)) := by
                      rcases h11 with ⟨_, h⟩ | ⟨hlong, _⟩
                      · exact h
                      · exact absurd HF5.out (by omega)
                    clear h11
                    have hbl11 : Below w5.heap.size w5 w11 := hbl10.trans (hb11.mono (by omega))
                    have HV11 : Hid (Kt.Num w11 w5.heap.size v11 (pairs g tk (a + 1))) := Lib.hid (hv11.less (by omega))
                    clear hv11 HU10 HV10
                    go_wp2_with fail
                    go_roundw
                    case rel => exact ⟨a + 1, by omega, by go_num, HV11, hbl11⟩
                    case measure => simp [intOf]; omega
                · obtain rfl : a = nt + 1 := by omega
                  have dl : decide (((nt + 1 : Nat) : Int) ≤ nt) = false := by simp; omega
                  go_wp2_with fail
                  refine (Count_any (Gr.pair g) tk (some ⟨gg, 0, none⟩) (k + 1) cap T nt ct wr (by rw [Gr.pair_len, hn.out]) (by omega) hnt.out (by omega) (by omega) (pair_wf HW.out) (hRn.out.on hbl) (HT.out.on hbw7)).mono ?_
                  rintro e w8 ⟨hb8, v8, c, rfl, hk8, hv8⟩
                  obtain rfl : c = 0 := hk8.good.2 ⟨hGn.out, by rw [hnt.out]; omega⟩
                  rw [if_pos rfl, pair_counts HGD.out hGn.out, hnt.out] at hv8
                  have hbw8 : Below w.heap.size w w8 := hbw7.trans (hb8.mono hbw7.size)
                  have hs8 := hbw8.size
                  have HV8 := Lib.hid hv8
                  have hlen : (Nt.limbs (pairs g tk (nt + 1))).length ≤ 4611686018427387904 := Nat.le_trans (pairs_fit HGD.out hGn.out (by rw [hnt.out]; omega) (a := nt + 1) (by rw [hnt.out]; exact Nat.le_refl _) (Nat.le_refl _)) (by decide)
                  have HU8 := Lib.hid (hU.out.on hb8)
                  clear hk8 hv8 hU
                  go_wp2_with fail
                  refine (same_num HV8.out HU8.out hlen).mono ?_
                  rintro e w9 ⟨rfl, hb9⟩
                  have hdd : decide (pairs g tk (nt + 1) = pairs g tk (nt + 1)) = true := by simp
                  rw [hdd]
                  have hbw9 : Below w.heap.size w w9 := hbw8.trans (hb9.mono hs8)
                  clear hdd
                  go_wp2_with fail
                  go_ret
                  exact ⟨rfl, hbw9⟩
    · have hce : (c != 0) = true := by simp [hcz]
      clear hcz hc
      go_wp2_with fail
      go_ret
      exact ⟨rfl, hb3'⟩
  · go_wp2_with fail
    go_ret
    exact ⟨rfl, hb1⟩
end Go.Proofs.Ytkclifdbdnigaaa
end
