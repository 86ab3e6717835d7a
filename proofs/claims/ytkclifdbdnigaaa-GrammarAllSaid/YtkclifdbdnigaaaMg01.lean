/- Joined: OrM, PaM, PaW, IsM, MoM, ApW. -/
import Derived.Test.YtkclifdbdnigaaaMa02
import Derived.Test.YtkclifdbdnigaaaMa19
section
/- The order of derivations: the plain law. -/
namespace Gr
def Tr.tend : Tr → Nat
  | .node _ _ j _ => j
def ordI (o : Tr → Tr → Int) : List Item → List Tr → List Tr → Int
  | [], _, _ => 0
  | x :: l, ya, yb =>
    if x.cls ≠ 0 then ordI o l ya yb
    else match ya, yb with
      | a :: ya, b :: yb => if a.tend ≠ b.tend then (a.tend : Int) - b.tend else if o a b ≠ 0 then o a b else ordI o l ya yb
      | _, _ => 0
def ordT (g : List Rule) : Nat → Tr → Tr → Int
  | 0, _, _ => 0
  | f + 1, .node r _ _ ya, .node r' _ _ yb => if r ≠ r' then (r : Int) - r' else ordI (ordT g f) (rul g r).right ya yb
section
variable {o : Tr → Tr → Int} {x : Item} {l : List Item} {ya yb : List Tr} {a b : Tr}
theorem ordI_cls (hx : x.cls ≠ 0) : ordI o (x :: l) ya yb = ordI o l ya yb := by rw [ordI.eq_def]; dsimp only; rw [if_pos hx]
theorem ordI_sym (hx : x.cls = 0) : ordI o (x :: l) (a :: ya) (b :: yb) = if a.tend ≠ b.tend then (a.tend : Int) - b.tend else if o a b ≠ 0 then o a b else ordI o l ya yb := by
  rw [ordI.eq_def]; dsimp only; rw [if_neg (by simp [hx])]
end
theorem ordI_self {o : Tr → Tr → Int} (h : ∀ a, o a a = 0) : ∀ (l : List Item) (y : List Tr), ordI o l y y = 0
  | [], y => by rw [ordI]
  | x :: l, y => by
    by_cases hx : x.cls = 0
    · cases y with
      | nil => rw [ordI.eq_def]; dsimp only; rw [if_neg (by simp [hx])]
      | cons a y => rw [ordI_sym hx, if_neg (by simp), if_neg (by simp [h]), ordI_self h l y]
    · rw [ordI_cls hx, ordI_self h l y]
theorem ordT_self (g : List Rule) : ∀ (f : Nat) (a : Tr), ordT g f a a = 0 := by
  intro f
  induction f with
  | zero => intro a; rfl
  | succ f ih =>
    intro a
    obtain ⟨r, i, j, y⟩ := a
    rw [ordT, if_neg (by simp)]
    exact ordI_self ih _ _
theorem T_tend {g : List Rule} {hit : Nat → Int → Bool} : ∀ (f : Nat) (s : Int) (i j : Nat) (x : Tr), x ∈ T g hit f s i j → x.tend = j
  | 0, _, _, _, _, h => by cases h
  | f + 1, s, i, j, x, h => by
    rw [T] at h
    obtain ⟨r, _, h⟩ := List.mem_flatMap.1 h
    obtain ⟨y, _, rfl⟩ := List.mem_map.1 h
    rfl
theorem parts_sorted (hit : Nat → Int → Bool) (t : Int → Nat → Nat → List Tr) (o : Tr → Tr → Int) (h0 : ∀ a, o a a = 0) (hp : ∀ s a b, (t s a b).Pairwise fun x y => o x y < 0) (he : ∀ s a b x, x ∈ t s a b → x.tend = b) : ∀ (l : List Item) (i j : Nat), (parts hit t l i j).Pairwise fun y z => ordI o l y z < 0 := by
  intro l
  induction l with
  | nil =>
    intro i j
    rw [parts]
    split
    · exact List.pairwise_singleton _ _
    · exact List.Pairwise.nil
  | cons x l ih =>
    intro i j
    rw [parts]
    split
    · rename_i hx
      rw [List.pairwise_flatMap]
      refine ⟨fun m _ => ?_, ?_⟩
      · rw [List.pairwise_flatMap]
        refine ⟨fun a _ => ?_, ?_⟩
        · rw [List.pairwise_map]
          refine (ih m j).imp fun {y z} h => ?_
          rw [ordI_sym hx, if_neg (by simp), if_neg (by simp [h0])]
          exact h
        · refine (List.Pairwise.and_mem.1 (hp x.sym i m)).imp fun {a b} hab y hy z hz => ?_
          obtain ⟨ha, hb, hab⟩ := hab
          obtain ⟨y', _, rfl⟩ := List.mem_map.1 hy
          obtain ⟨z', _, rfl⟩ := List.mem_map.1 hz
          rw [ordI_sym hx, if_neg (by rw [he _ _ _ _ ha, he _ _ _ _ hb]; simp), if_pos (by omega)]
          exact hab
      · refine (List.pairwise_lt_range' (s := i + 1) (n := j - i)).imp fun {m m'} hm y hy z hz => ?_
        obtain ⟨a, ha, hy⟩ := List.mem_flatMap.1 hy
        obtain ⟨b, hb, hz⟩ := List.mem_flatMap.1 hz
        obtain ⟨y', _, rfl⟩ := List.mem_map.1 hy
        obtain ⟨z', _, rfl⟩ := List.mem_map.1 hz
        rw [ordI_sym hx, if_pos (by rw [he _ _ _ _ ha, he _ _ _ _ hb]; omega), he _ _ _ _ ha, he _ _ _ _ hb]
        omega
    · rename_i hx
      split
      · refine (ih (i + 1) j).imp fun {y z} h => ?_
        rw [ordI_cls hx]
        exact h
      · exact List.Pairwise.nil
theorem T_sorted (g : List Rule) (hit : Nat → Int → Bool) : ∀ (f : Nat) (s : Int) (i j : Nat), (T g hit f s i j).Pairwise fun x y => ordT g f x y < 0 := by
  intro f
  induction f with
  | zero => intro s i j; exact List.Pairwise.nil
  | succ f ih =>
    intro s i j
    rw [T, List.pairwise_flatMap]
    refine ⟨fun r _ => ?_, ?_⟩
    · rw [List.pairwise_map]
      refine (parts_sorted hit (T g hit f) (ordT g f) (ordT_self g f) ih (fun s a b x hx => T_tend f s a b x hx) (rul g r).right i j).imp fun {y z} h => ?_
      rw [ordT, if_neg (by simp)]
      exact h
    · have hlt : (rulesOf g s).Pairwise (· < ·) := List.pairwise_lt_range.filter _
      refine hlt.imp fun {r r'} hr y hy z hz => ?_
      obtain ⟨y', _, rfl⟩ := List.mem_map.1 hy
      obtain ⟨z', _, rfl⟩ := List.mem_map.1 hz
      rw [ordT, if_pos (by omega)]
      omega
end Gr
end
section
/- A rule that puts two derivations one behind the other: the sum of the products. -/
namespace Gr
section
variable {α β : Type}
theorem upto_shift (hit hit' : Nat → Int → Bool) (t : Int → Nat → Nat → List α) (t' : Int → Nat → Nat → List β) (a : Nat) (x : Item) (l : List Item) (i j : Nat) (ht : ∀ s p q, i ≤ p → p ≤ q → q ≤ j → (t s (p + a) (q + a)).length = (t' s p q).length)
    (hl : ∀ p, i < p → p ≤ j → (parts hit t l (p + a) (j + a)).length = (parts hit' t' l p j).length) : ∀ k, i + k ≤ j → upto hit t x l (i + a) (j + a) k = upto hit' t' x l i j k
  | 0, _ => rfl
  | k + 1, hk => by
    rw [upto_succ, upto_succ, upto_shift hit hit' t t' a x l i j ht hl k (by omega), show i + a + 1 + k = i + 1 + k + a from by omega, ht _ _ _ (Nat.le_refl _) (by omega) (by omega), hl _ (by omega) (by omega)]
theorem parts_shift (hit hit' : Nat → Int → Bool) (t : Int → Nat → Nat → List α) (t' : Int → Nat → Nat → List β) (a : Nat) : ∀ (l : List Item) (i j : Nat), (∀ s p q, i ≤ p → p ≤ q → q ≤ j → (t s (p + a) (q + a)).length = (t' s p q).length) →
    (∀ p, i ≤ p → p < j → ∀ c, hit (p + a) c = hit' p c) → (parts hit t l (i + a) (j + a)).length = (parts hit' t' l i j).length := by
  intro l
  induction l with
  | nil =>
    intro i j _ _
    rw [len_nil, len_nil]
    by_cases h : i = j
    · rw [if_pos h, if_pos (by omega)]
    · rw [if_neg h, if_neg (by omega)]
  | cons x l ih =>
    intro i j ht hh
    have hih : ∀ p, i < p → p ≤ j → (parts hit t l (p + a) (j + a)).length = (parts hit' t' l p j).length := fun p hp hq => ih p j (fun s p' q h1 h2 h3 => ht s p' q (by omega) h2 h3) (fun p' h1 h2 c => hh p' (by omega) h2 c)
    by_cases hx : x.cls = 0
    · rw [len_sym hit t l _ _ hx, len_sym hit' t' l _ _ hx, show j + a - (i + a) = j - i from by omega]
      by_cases hij : i ≤ j
      · exact upto_shift hit hit' t t' a x l i j ht hih _ (by omega)
      · rw [show j - i = 0 from by omega]; rfl
    · by_cases hij : i < j
      · have e := hh i (Nat.le_refl _) hij x.cls
        cases h2 : hit' i x.cls
        · rw [len_miss hit t hx (by rw [e]; exact h2), len_miss hit' t' hx h2]; rfl
        · rw [len_hit hit t hx (by omega) (by rw [e]; exact h2), len_hit hit' t' hx hij h2, show i + a + 1 = i + 1 + a from by omega]
          exact hih _ (by omega) (by omega)
      · rw [parts_short hit t _ _ _ (by simp; omega), parts_short hit' t' _ _ _ (by simp; omega)]; rfl
end
theorem sum_map_same {α : Type} {f g : α → Nat} : ∀ (l : List α), (∀ a ∈ l, f a = g a) → (l.map f).sum = (l.map g).sum
  | [], _ => rfl
  | a :: l, h => by rw [List.map_cons, List.map_cons, List.sum_cons, List.sum_cons, h a (by simp), sum_map_same l fun b hb => h b (by simp [hb])]
theorem T_shift (g : List Rule) (hit hit' : Nat → Int → Bool) (a : Nat) : ∀ (f : Nat) (s : Int) (i j : Nat), (∀ p, i ≤ p → p < j → ∀ c, hit (p + a) c = hit' p c) → (T g hit f s (i + a) (j + a)).length = (T g hit' f s i j).length := by
  intro f
  induction f with
  | zero => intro s i j _; rfl
  | succ f ih =>
    intro s i j hh
    rw [T, T, List.length_flatMap, List.length_flatMap]
    refine sum_map_same _ fun r _ => ?_
    rw [List.length_map, List.length_map]
    exact parts_shift hit hit' _ _ a _ i j (fun s p q h1 h2 h3 => ih s p q fun p' h4 h5 c => hh p' (by omega) (by omega) c) hh
theorem cnt_shift {g : List Rule} {ρ : Int → Nat} (hR : Ranked g ρ) (hit hit' : Nat → Int → Bool) (a n m : Nat) (s : Int) (i j : Nat) (hh : ∀ p, i ≤ p → p < j → ∀ c, hit (p + a) c = hit' p c) (hm : j - i ≤ m) (hn : m ≤ n) : cnt g hit n s (i + a) (j + a) = cnt g hit' m s i j := by
  unfold cnt
  rw [D_bound hR hit (n := m) s (i + a) (j + a) (by omega) hn]
  exact T_shift g hit hit' a _ s i j hh
theorem cnt_empty {g : List Rule} (hG : Good g) (hit : Nat → Int → Bool) (n : Nat) (s : Int) (i : Nat) : cnt g hit n s i i = 0 := by
  unfold cnt D
  rw [show 64 * (n + 1) = (64 * n + 63) + 1 from by omega, T, List.length_flatMap, List.sum_eq_zero_iff_forall_eq_nat]
  intro y hy
  rw [List.mem_map] at hy
  obtain ⟨r, hr, rfl⟩ := hy
  have h1 := (hG.ok r (mem_rulesOf.1 hr).1).parts.2.1
  rw [parts_short _ _ _ _ _ (by omega)]
  rfl
/-- All symbols one further. -/
def upS (x : Item) : Int := if x.cls = 0 then x.sym + 1 else x.sym
def up (g : List Rule) : List Rule := g.map (mapR (· + 1) upS)
def both : Rule := ⟨0, [⟨0, 1⟩, ⟨0, 1⟩]⟩
def pair (g : List Rule) : List Rule := up g ++ [both]
theorem pair_len (g : List Rule) : (pair g).length = g.length + 1 := by simp [pair, up]
theorem pair_rul (g : List Rule) {r : Nat} (h : r < g.length) : rul (pair g) r = mapR (· + 1) upS (rul g r) := by
  have e : rul (pair g) r = rul (up g) r := by
    unfold rul pair
    rw [List.getD_eq_getElem?_getD, List.getD_eq_getElem?_getD, List.getElem?_append_left (by simpa [up] using h)]
  rw [e]
  exact rul_mapR _ _ _ _ h
theorem pair_last (g : List Rule) : rul (pair g) g.length = both := by
  unfold rul pair
  rw [List.getD_eq_getElem?_getD, List.getElem?_append_right (by simp [up])]
  simp [up]
theorem pair_rules (g : List Rule) {s : Int} (hs : 0 ≤ s) : rulesOf (pair g) (s + 1) = rulesOf g s := by
  unfold rulesOf
  rw [pair_len, List.range_succ, List.filter_append, List.filter_cons, pair_last]
  rw [show decide (both.left = s + 1) = false from decide_eq_false (by show ¬ (0 : Int) = s + 1; omega)]
  simp only [Bool.false_eq_true, if_false, List.filter_nil, List.append_nil]
  refine List.filter_congr fun r hr => ?_
  rw [List.mem_range] at hr
  rw [pair_rul g hr]
  show decide ((rul g r).left + 1 = s + 1) = _
  by_cases e : (rul g r).left = s
  · rw [e]; simp
  · rw [decide_eq_false e, decide_eq_false (by omega)]
theorem pair_rules0 {g : List Rule} (hG : Good g) : rulesOf (pair g) 0 = [g.length] := by
  unfold rulesOf
  rw [pair_len, List.range_succ, List.filter_append, List.filter_cons, pair_last]
  rw [show decide (both.left = 0) = true from rfl]
  have : (List.range g.length).filter (fun r => decide ((rul (pair g) r).left = 0)) = [] := by
    rw [List.filter_eq_nil_iff]
    intro r hr
    rw [List.mem_range] at hr
    rw [pair_rul g hr]
    have h1 := (hG.ok r hr).parts.1
    simp only [decide_eq_true_eq]
    show ¬ (rul g r).left + 1 = 0
    omega
  rw [this]; rfl
theorem pair_T {g : List Rule} (hG : Good g) (hit : Nat → Int → Bool) : ∀ (f : Nat) (s : Int) (i j : Nat), 0 ≤ s → T (pair g) hit f (s + 1) i j = T g hit f s i j := by
  intro f
  induction f with
  | zero => intro s i j _; rfl
  | succ f ih =>
    intro s i j hs
    rw [T, T, pair_rules g hs]
    refine flatMap_same _ fun r hr => ?_
    have hlt := (mem_rulesOf.1 hr).1
    have e1 : (rul (pair g) r).right = (rul g r).right.map (mapI upS) := by
      rw [pair_rul g hlt]; rfl
    rw [e1, parts_map hit (T g hit f) (T (pair g) hit f) _ _ (fun x hx hc i j => ?_)]
    unfold upS
    rw [if_pos hc]
    exact ih _ i j ((hG.ok r hlt).parts.2.2.2 x hx).1.1
theorem pair_good {g : List Rule} (hG : Good g) (hl : g.length < 200) (h1 : ∀ r, r < g.length → (rul g r).left + 1 < 64) (h2 : ∀ r, r < g.length → ∀ x ∈ (rul g r).right, x.cls = 0 → x.sym + 1 < 64) : Good (pair g) := by
  obtain ⟨ρ, hR⟩ := hG.ranked
  refine ⟨by rw [pair_len]; omega, fun r hr => ?_, fun s => ρ (s - 1), fun s => hR.le _, fun r hr x hx hc => ?_⟩
  · rw [pair_len] at hr
    by_cases hr2 : r < g.length
    · obtain ⟨h3, h4, h5, h6⟩ := (hG.ok r hr2).parts
      rw [pair_rul g hr2]
      refine ruleOk_of ⟨by show 0 ≤ (rul g r).left + 1; omega, h1 r hr2⟩ (by simp [mapR]; exact ⟨h4, h5⟩) fun x hx => ?_
      obtain ⟨y, hy, rfl⟩ := List.mem_map.1 hx
      obtain ⟨h7, h8⟩ := h6 y hy
      show (0 ≤ upS y ∧ upS y < 64) ∧ (y.cls = 0 ∨ upS y = 0)
      unfold upS
      split
      · rename_i hy0
        exact ⟨⟨by omega, h2 r hr2 y hy hy0⟩, .inl hy0⟩
      · rename_i hy0
        exact ⟨h7, .inr (h8.resolve_left hy0)⟩
    · obtain rfl : r = g.length := by omega
      rw [pair_last]
      exact ruleOk_of (by decide) (by decide) (by intro x hx; simp only [both, List.mem_cons, List.not_mem_nil, or_false, or_self] at hx; subst hx; decide)
  · rw [pair_len] at hr
    by_cases hr2 : r < g.length
    · rw [pair_rul g hr2] at hx ⊢
      have hx2 : (rul g r).right.map (mapI upS) = [x] := hx
      obtain ⟨y, hy, rfl⟩ := List.map_eq_singleton_iff.1 hx2
      show ρ (upS y - 1) < ρ ((rul g r).left + 1 - 1)
      have hc2 : y.cls = 0 := hc
      unfold upS
      rw [if_pos hc2, Int.add_sub_cancel, Int.add_sub_cancel]
      exact hR.dec r hr2 y hy hc2
    · obtain rfl : r = g.length := by omega
      rw [pair_last] at hx
      cases hx
end Gr
namespace Go.Proofs.Ytkclifdbdnigaaa
open Go Go.RowKit
/-- What both sides have, for the first places. -/
def pairs (g : List Gr.Rule) (tk : List Int) : Nat → Nat
  | 0 => 0
  | k + 1 => pairs g tk k + counts g (tk.take k) * counts g (tk.drop k)
theorem pairs_le (g : List Gr.Rule) (tk : List Int) (k : Nat) : ∀ d, pairs g tk k ≤ pairs g tk (k + d)
  | 0 => Nat.le_refl _
  | d + 1 => Nat.le_trans (pairs_le g tk k d) (Nat.le_add_right _ _)
theorem hitf_take (tk : List Int) (k p : Nat) (c : Int) (h : p < k) : hitf (tk.take k) p c = hitf tk p c := by
  unfold hitf Ls.nth
  rw [List.getD_eq_getElem?_getD, List.getD_eq_getElem?_getD, List.getElem?_take, if_pos h]
theorem hitf_drop (tk : List Int) (k p : Nat) (c : Int) : hitf tk (p + k) c = hitf (tk.drop k) p c := by
  unfold hitf Ls.nth
  rw [List.getD_eq_getElem?_getD, List.getD_eq_getElem?_getD, List.getElem?_drop, Nat.add_comm]
theorem counts_take {g : List Gr.Rule} (hG : Gr.Good g) (tk : List Int) (k : Nat) (h : k ≤ tk.length) : counts g (tk.take k) = Gr.cnt g (hitf tk) tk.length 0 0 k := by
  obtain ⟨ρ, hR⟩ := hG.ranked
  unfold counts
  have hl : (tk.take k).length = k := by rw [List.length_take]; omega
  rw [hl]
  exact (Gr.cnt_shift hR (hitf tk) (hitf (tk.take k)) 0 tk.length k 0 0 k (fun p _ hp c => (hitf_take tk k p c hp).symm) (by omega) h).symm
theorem counts_drop {g : List Gr.Rule} (hG : Gr.Good g) (tk : List Int) (k : Nat) (h : k ≤ tk.length) : counts g (tk.drop k) = Gr.cnt g (hitf tk) tk.length 0 k tk.length := by
  obtain ⟨ρ, hR⟩ := hG.ranked
  unfold counts
  have hl : (tk.drop k).length = tk.length - k := List.length_drop
  rw [hl]
  have := (Gr.cnt_shift hR (hitf tk) (hitf (tk.drop k)) k tk.length (tk.length - k) 0 0 (tk.length - k) (fun p _ _ c => hitf_drop tk k p c) (by omega) (by omega)).symm
  rwa [Nat.zero_add, show tk.length - k + k = tk.length from by omega] at this
theorem pairs_upto {g : List Gr.Rule} (hG : Gr.Good g) (tk : List Int) : ∀ k, k ≤ tk.length → pairs g tk (k + 1) = Gr.upto (hitf tk) (Gr.D (Gr.pair g) (hitf tk) tk.length) ⟨0, 1⟩ [⟨0, 1⟩] 0 tk.length k
  | 0, _ => by
    show 0 + _ * _ = 0
    rw [counts_take hG tk 0 (by omega), Gr.cnt_empty hG]
    simp
  | k + 1, hk => by
    show pairs g tk (k + 1) + _ * _ = _
    rw [pairs_upto hG tk k (by omega), Gr.upto_succ, counts_take hG tk _ hk, counts_drop hG tk _ hk, show 0 + 1 + k = k + 1 from by omega]
    have e1 : (Gr.D (Gr.pair g) (hitf tk) tk.length (⟨0, 1⟩ : Gr.Item).sym 0 (k + 1)).length = Gr.cnt g (hitf tk) tk.length 0 0 (k + 1) := congrArg List.length (Gr.pair_T hG (hitf tk) _ 0 0 (k + 1) (by decide))
    have e2 : (Gr.parts (hitf tk) (Gr.D (Gr.pair g) (hitf tk) tk.length) [⟨0, 1⟩] (k + 1) tk.length).length = Gr.cnt g (hitf tk) tk.length 0 (k + 1) tk.length := by
      by_cases h : k + 1 < tk.length
      · have := Gr.ways_one (g := Gr.pair g) (hit := hitf tk) (n := tk.length) (x := ⟨0, 1⟩) rfl h
        unfold Gr.ways at this
        rw [this]
        exact congrArg List.length (Gr.pair_T hG (hitf tk) _ 0 (k + 1) tk.length (by decide))
      · have e : k + 1 = tk.length := by omega
        rw [Gr.parts_short _ _ _ _ _ (by simp; omega), e, Gr.cnt_empty hG]; rfl
    rw [e1, e2]
theorem pair_counts {g : List Gr.Rule} (hG : Gr.Good g) (hP : Gr.Good (Gr.pair g)) (tk : List Int) : counts (Gr.pair g) tk = pairs g tk (tk.length + 1) := by
  obtain ⟨ρ, hR⟩ := hP.ranked
  rw [pairs_upto hG tk _ (Nat.le_refl _)]
  unfold counts
  rw [Gr.cnt_eq hR _ _ _ _ _ (by omega), Gr.pair_rules0 hG, List.map_cons, List.map_nil, List.sum_cons, List.sum_nil, Nat.add_zero, Gr.pair_last]
  exact Gr.len_sym _ _ _ _ _ rfl
end Go.Proofs.Ytkclifdbdnigaaa
end
section
/- Symbols that are moved up one by one: what is known of the limits. -/
namespace Gr
/-- The rules ahead of k, and q items of rule k, stay below the limit. -/
structure FitU (g : List Rule) (k q : Nat) (b : Bool) : Prop where
  l : ∀ r, r < k → (rul g r).left + 1 < 64
  r : ∀ r, r < k → ∀ x ∈ (rul g r).right, x.cls = 0 → x.sym + 1 < 64
  lk : b = true → (rul g k).left + 1 < 64
  rk : ∀ p, p < q → (itm (rul g k).right p).cls = 0 → (itm (rul g k).right p).sym + 1 < 64
theorem FitU.zero (g : List Rule) : FitU g 0 0 false := ⟨fun r h => by omega, fun r h => by omega, fun h => (by cases h), fun p h => (by omega)⟩
theorem FitU.left {g : List Rule} {k : Nat} (h : FitU g k 0 false) (hl : (rul g k).left + 1 < 64) : FitU g k 0 true := ⟨h.l, h.r, fun _ => hl, h.rk⟩
theorem FitU.item {g : List Rule} {k q : Nat} {b : Bool} (h : FitU g k q b) (hl : (itm (rul g k).right q).cls = 0 → (itm (rul g k).right q).sym + 1 < 64) : FitU g k (q + 1) b := ⟨h.l, h.r, h.lk, fun p hp => by
  by_cases e : p = q
  · subst e; exact hl
  · exact h.rk p (by omega)⟩
theorem FitU.next {g : List Rule} {k : Nat} (h : FitU g k (rul g k).right.length true) : FitU g (k + 1) 0 false := ⟨fun r hr => by
  by_cases e : r = k
  · subst e; exact h.lk rfl
  · exact h.l r (by omega), fun r hr x hx hc => by
  by_cases e : r = k
  · subst e
    obtain ⟨p, hp, rfl⟩ := List.mem_iff_getElem.1 hx
    have e1 : itm (rul g r).right p = (rul g r).right[p] := by unfold itm; rw [List.getD_eq_getElem?_getD, List.getElem?_eq_getElem hp]; rfl
    have := h.rk p hp
    rw [e1] at this
    exact this hc
  · exact h.r r (by omega) x hx hc, fun h => (by cases h), fun p h => (by omega)⟩
theorem stR_skip {fl : Int → Int} {fs : Item → Int} {g : List Rule} {k q : Nat} (hq : q < (rul g k).right.length) (he : fs (itm (rul g k).right q) = (itm (rul g k).right q).sym) : stR fl fs g k (q + 1) true = stR fl fs g k q true := ext_rul (by rw [stR_len, stR_len]) fun r hr => by
  rw [stR_len] at hr
  rw [stR_rul _ _ _ _ hr, stR_rul _ _ _ _ hr]
  split
  · rfl
  · split
    · rename_i hk
      subst hk
      have e2 := itm_set (fs := fs) (rul g r).right q hq
      rw [he] at e2
      have e3 : (((rul g r).right.take q).map (mapI fs) ++ (rul g r).right.drop q).set q (itm (rul g r).right q) = ((rul g r).right.take q).map (mapI fs) ++ (rul g r).right.drop q := by
        have hl : q < (((rul g r).right.take q).map (mapI fs) ++ (rul g r).right.drop q).length := by rw [stI_len]; exact hq
        have e4 := stI_get (fs := fs) (rul g r).right q hq
        have e5 : (((rul g r).right.take q).map (mapI fs) ++ (rul g r).right.drop q)[q] = itm (rul g r).right q := by
          rw [← e4]; unfold itm; rw [List.getD_eq_getElem?_getD, List.getElem?_eq_getElem hl]; rfl
        rw [← e5, List.set_getElem_self]
      rw [e2, show (⟨(itm (rul g r).right q).cls, (itm (rul g r).right q).sym⟩ : Item) = itm (rul g r).right q from rfl, e3]
    · rfl
theorem itm_at {fs : Item → Int} (l : List Item) (q : Nat) (hq : q < l.length) : itm ((l.take (q + 1)).map (mapI fs) ++ l.drop (q + 1)) q = ⟨(itm l q).cls, fs (itm l q)⟩ := by
  rw [itm_set _ _ hq]
  have hl : q < ((l.take q).map (mapI fs) ++ l.drop q).length := by rw [stI_len]; exact hq
  unfold itm
  rw [List.getD_eq_getElem?_getD, List.getElem?_set_self hl]
  rfl
theorem up_eq (g : List Rule) : g.map (mapR (· + 1) upS) = up g := rfl
end Gr
namespace Go.Proofs.Ytkclifdbdnigaaa
open Go Go.RowKit
theorem pair_wf {g : List Gr.Rule} (h : WfR g) : WfR (Gr.pair g) := fun r hr x hx => by
  rw [Gr.pair_len] at hr
  by_cases hr2 : r < g.length
  · rw [Gr.pair_rul g hr2] at hx
    obtain ⟨y, hy, rfl⟩ := List.mem_map.1 (show x ∈ (Gr.rul g r).right.map (Gr.mapI Gr.upS) from hx)
    exact h r hr2 y hy
  · obtain rfl : r = g.length := by omega
    rw [Gr.pair_last] at hx
    simp only [Gr.both, List.mem_cons, List.not_mem_nil, or_false, or_self] at hx
    subst hx
    decide
theorem pairs_fit {g : List Gr.Rule} (hG : Gr.Good g) (hP : Gr.Good (Gr.pair g)) {tk : List Int} (h : tk.length ≤ 30) {x a : Nat} (ha : a ≤ tk.length + 1) (hx : x ≤ pairs g tk a) : (Nt.limbs x).length ≤ 1024 := by
  obtain ⟨ρ, hR⟩ := hP.ranked
  refine Gr.limbs_fit fun K hK => Nat.lt_of_le_of_lt (Nat.le_trans hx ?_) (Gr.cnt_lt hR (by have := hP.len; omega) (hitf tk) tk.length 0 0 tk.length (by omega) (by omega) hK)
  have h1 := pairs_le g tk a (tk.length + 1 - a)
  rw [show a + (tk.length + 1 - a) = tk.length + 1 from by omega, ← pair_counts hG hP] at h1
  exact h1
theorem OG.pair {w w9 w5 : World} {base gg cap k : Nat} {v : Value} {g : List Gr.Rule} {G C : Nat → Nat} (h : OG w base v (Gr.up g) G C) (hk : g.length = k) (hbase : base ≤ w.heap.size)
    (hown : w5.ownsRow base 37 2 (.slice (some ⟨gg, 0, none⟩) (k + 1) cap) (k + 1) (flatR G C (Gr.up g) ++ [.int .i64 0, .slice (some ⟨w.heap.size, 0, none⟩) 2 2]))
    (hblk : Kt.Blk w9 w.heap.size 40 #[.int .u16 0, .int .i64 1, .int .u16 0, .int .i64 1]) (hgr : w9.grownBy w5 v.ownBlock) (hs9 : w9.heap.size = w.heap.size + 2) (h9 : ∀ q, q < w.heap.size → w9.heap[q]? = w.heap[q]?)
    (hat : v.ownBlock = some gg ∨ gg = w9.heap.size) : OG w5 base (.slice (some ⟨gg, 0, none⟩) (k + 1) cap) (Gr.pair g) (fun r => if r = k then w.heap.size else G r) (fun r => if r = k then 2 else C r) := by
  subst hk
  have e1 : (Gr.pair g).take g.length = Gr.up g := by
    unfold Gr.pair
    rw [List.take_left' (by simp [Gr.up])]
  have e2 : (Gr.pair g).take (g.length + 1) = Gr.pair g := List.take_of_length_le (by rw [Gr.pair_len]; exact Nat.le_refl _)
  have hvl : ∀ q, v.ownBlock = some q → q < w.heap.size := fun q e => (h.own.lt q e).2
  have hgo : w9.ownsRow w.heap.size 40 2 (.slice (some ⟨w.heap.size, 0, none⟩) 2 2) 2 [.int .u16 0, .int .i64 1, .int .u16 0, .int .i64 1] := ⟨rfl, .inr ⟨w.heap.size, 2, #[.int .u16 0, .int .i64 1, .int .u16 0, .int .i64 1], rfl, Nat.le_refl _, hblk, Nat.le_refl _, by decide, rfl, rfl⟩⟩
  have hgo5 : w5.ownsRow w.heap.size 40 2 (.slice (some ⟨w.heap.size, 0, none⟩) 2 2) 2 [.int .u16 0, .int .i64 1, .int .u16 0, .int .i64 1] := Kt.ownsRow_keep hgo fun q e => hgr.block q (hgo.lt q e).2 fun e2 => by
    have e9 : w.heap.size = q := by simpa [Value.ownBlock] using e
    have := hvl q e2.symm
    omega
  have hh := OG.snoc (w := w) (w2 := w5) (base := base) (k := g.length) (g2 := gg) (cap2 := cap) (gx := w.heap.size) (capx := 2) (v := v) (g := Gr.pair g) (G := G) (C := C) (by rw [e1]; exact h) (by rw [Gr.pair_len]; omega)
    (by rw [e1, Gr.pair_last]; exact hown) (by rw [Gr.pair_last]; exact hgo5) hbase
    (by rcases hat with e | e; exact .inl e; exact .inr (by omega)) (fun e => by
      rcases hat with e3 | e3
      · have := hvl gg e3; omega
      · omega) (Nat.le_refl _) (fun q hq hnq => (hgr.block q (by omega) fun e => hnq e.symm).trans (h9 q hq))
  rwa [e2] at hh
end Go.Proofs.Ytkclifdbdnigaaa
namespace Kt
open Go
theorem Ints.takeN {w : World} {B : Nat} {k : IntKind} {A : Option Addr} {zs : List Int} (h : Ints w B k A zs) (a : Nat) : Ints w B k A (zs.take a) := fun hp => by
  rw [List.length_take] at hp
  obtain ⟨b, off, e, hb, hc⟩ := h (by omega)
  refine ⟨b, off, e, hb, fun j hj => ?_⟩
  rw [List.length_take] at hj
  rw [hc j (by omega)]
  simp only [Ls.nth, List.getD_eq_getElem?_getD, List.getElem?_take, if_pos (show j < a by omega)]
theorem Ints.dropN {w : World} {B b off : Nat} {k : IntKind} {zs : List Int} (h : Ints w B k (some ⟨b, off, none⟩) zs) (a : Nat) : Ints w B k (some ⟨b, off + a, none⟩) (zs.drop a) := fun hp => by
  rw [List.length_drop] at hp
  obtain ⟨b', off', e, hb, hc⟩ := h (by omega)
  injection e with e
  injection e with e1 e2
  subst e1 e2
  refine ⟨_, _, rfl, hb, fun j hj => ?_⟩
  rw [List.length_drop] at hj
  rw [Nat.add_assoc, hc (a + j) (by omega)]
  simp only [Ls.nth, List.getD_eq_getElem?_getD, List.getElem?_drop]
theorem Ints.dropO {w : World} {B : Nat} {k : IntKind} {A : Option Addr} {zs : List Int} (h : Ints w B k A zs) (a : Nat) : Ints w B k (A.map fun x => x.add a) (zs.drop a) := fun hp => by
  have hp2 := hp
  rw [List.length_drop] at hp2
  obtain ⟨b, off, e, hb, hc⟩ := h (by omega)
  subst e
  rw [Option.map_some, Addr.add_lit]
  exact (Ints.dropN h a) hp
end Kt
end
section
/- What isTree computes, for any tree (its numbers are whole numbers). -/
namespace Gr
inductive TrI where
  | node (rule fr fin : Int) (sub : List TrI)
def TrI.fin : TrI → Int
  | .node _ _ t _ => t
/-- The items of a rule against the trees of its symbols, from a place on. -/
def isItems (hit : Nat → Int → Bool) (chk : TrI → Int → Int → Int → Bool) (e : Int) : List Item → List TrI → Int → Bool
  | [], ts, i => decide (i = e) && ts.isEmpty
  | x :: l, ts, i =>
    if e ≤ i then false
    else if x.cls ≠ 0 then hit i.toNat x.cls && isItems hit chk e l ts (i + 1)
    else match ts with
      | [] => false
      | t :: ts => if t.fin ≤ i ∨ e - l.length < t.fin then false else chk t x.sym i t.fin && isItems hit chk e l ts t.fin
section
variable {hit : Nat → Int → Bool} {chk : TrI → Int → Int → Int → Bool} {e i : Int} {x : Item} {l : List Item}
theorem isItems_late {ts : List TrI} (h : e ≤ i) : isItems hit chk e (x :: l) ts i = false := by rw [isItems.eq_def]; dsimp only; rw [if_pos h]
theorem isItems_cls {ts : List TrI} (h : i < e) (hx : x.cls ≠ 0) : isItems hit chk e (x :: l) ts i = (hit i.toNat x.cls && isItems hit chk e l ts (i + 1)) := by
  rw [isItems.eq_def]; dsimp only; rw [if_neg (by omega), if_pos hx]
theorem isItems_none (h : i < e) (hx : x.cls = 0) : isItems hit chk e (x :: l) [] i = false := by
  rw [isItems.eq_def]; dsimp only; rw [if_neg (by omega), if_neg (by simp [hx])]
theorem isItems_sym {t : TrI} {ts : List TrI} (h : i < e) (hx : x.cls = 0) : isItems hit chk e (x :: l) (t :: ts) i = if t.fin ≤ i ∨ e - l.length < t.fin then false else chk t x.sym i t.fin && isItems hit chk e l ts t.fin := by
  rw [isItems.eq_def]; dsimp only; rw [if_neg (by omega), if_neg (by simp [hx])]
end
/-- Is it a tree of a symbol between two places? (No deeper than a number.) -/
def isT (g : List Rule) (hit : Nat → Int → Bool) : Nat → TrI → Int → Int → Int → Bool
  | 0, _, _, _, _ => false
  | f + 1, .node r fr t0 sub, s, i, j =>
    if r < 0 ∨ (g.length : Int) ≤ r ∨ (rul g r.toNat).left ≠ s ∨ fr ≠ i ∨ t0 ≠ j then false else isItems hit (isT g hit f) j (rul g r.toNat).right sub i
mutual
def TrI.size : TrI → Nat
  | .node _ _ _ sub => 1 + TrI.sizes sub
def TrI.sizes : List TrI → Nat
  | [] => 0
  | t :: ts => t.size + TrI.sizes ts
end
theorem sizes_mem {y : TrI} : ∀ {l : List TrI}, y ∈ l → y.size ≤ TrI.sizes l
  | t :: l, h => by
    rw [TrI.sizes]
    rcases List.mem_cons.1 h with rfl | h
    · omega
    · have := sizes_mem h
      omega
theorem size_mem {y : TrI} {l : List TrI} (h : y ∈ l) (r i j : Int) : y.size < (TrI.node r i j l).size := by
  have := sizes_mem h
  rw [TrI.size]
  omega
mutual
/-- A derivation, as a tree with whole numbers. -/
def Tr.toI : Tr → TrI
  | .node r i j sub => .node r i j (Tr.toIs sub)
def Tr.toIs : List Tr → List TrI
  | [] => []
  | t :: ts => t.toI :: Tr.toIs ts
end
theorem items_of (hit : Nat → Int → Bool) (t : Int → Nat → Nat → List Tr) (chk : TrI → Int → Int → Int → Bool) (hc : ∀ s a b x, x ∈ t s a b → chk x.toI s a b = true ∧ x.toI.fin = b) : ∀ (l : List Item) (i j : Nat) (ts : List Tr), ts ∈ parts hit t l i j → isItems hit chk j l (Tr.toIs ts) i = true := by
  intro l
  induction l with
  | nil =>
    intro i j ts h
    rw [parts] at h
    split at h
    · rename_i hij
      obtain rfl : ts = [] := by simpa using h
      simp [isItems, Tr.toIs, hij]
    · cases h
  | cons x l ih =>
    intro i j ts h
    have hne : i + (x :: l).length ≤ j := by
      by_cases h2 : i + (x :: l).length ≤ j
      · exact h2
      · rw [parts_short hit t _ _ _ (by omega)] at h; cases h
    rw [List.length_cons] at hne
    rw [isItems.eq_def]
    dsimp only
    rw [if_neg (by omega)]
    rw [parts] at h
    split at h
    · rename_i hx
      rw [if_neg (by simp [hx])]
      obtain ⟨m, hm, h⟩ := List.mem_flatMap.1 h
      obtain ⟨a, ha, h⟩ := List.mem_flatMap.1 h
      obtain ⟨rest, hr, rfl⟩ := List.mem_map.1 h
      rw [List.mem_range'_1] at hm
      obtain ⟨h1, h2⟩ := hc _ _ _ _ ha
      have hml : m + l.length ≤ j := by
        by_cases h3 : m + l.length ≤ j
        · exact h3
        · rw [parts_short hit t _ _ _ (by omega)] at hr; cases hr
      show (if a.toI.fin ≤ (i : Int) ∨ (j : Int) - l.length < a.toI.fin then false else chk a.toI x.sym i a.toI.fin && isItems hit chk j l (Tr.toIs rest) a.toI.fin) = true
      rw [h2, if_neg (by omega), h1, ih m j rest hr]
      rfl
    · rename_i hx
      rw [if_pos hx]
      split at h
      · rename_i hh
        rw [show (i : Int).toNat = i from rfl, hh.2, show (i : Int) + 1 = ((i + 1 : Nat) : Int) from by omega, ih (i + 1) j ts h]
        rfl
      · cases h
theorem T_isT (g : List Rule) (hit : Nat → Int → Bool) : ∀ (f : Nat) (s : Int) (i j : Nat) (x : Tr), x ∈ T g hit f s i j → isT g hit f x.toI s i j = true ∧ x.toI.fin = j := by
  intro f
  induction f with
  | zero => intro s i j x h; cases h
  | succ f ih =>
    intro s i j x h
    rw [T] at h
    obtain ⟨r, hr, h⟩ := List.mem_flatMap.1 h
    obtain ⟨ts, hts, rfl⟩ := List.mem_map.1 h
    rw [mem_rulesOf] at hr
    refine ⟨?_, rfl⟩
    show (if (r : Int) < 0 ∨ (g.length : Int) ≤ (r : Int) ∨ (rul g (r : Int).toNat).left ≠ s ∨ (i : Int) ≠ i ∨ (j : Int) ≠ j then false else isItems hit (isT g hit f) j (rul g (r : Int).toNat).right (Tr.toIs ts) i) = true
    rw [show (r : Int).toNat = r from rfl, if_neg (by
      rintro (h1 | h1 | h1 | h1 | h1)
      · omega
      · omega
      · exact h1 hr.2
      · exact h1 rfl
      · exact h1 rfl)]
    exact items_of hit (T g hit f) (isT g hit f) (fun s a b x hx => ih s a b x hx) _ i j ts hts
end Gr
end
section
/- A rule more, or more classes: no fewer derivations, and those from before pass still. -/
namespace Gr
theorem sum_map_le {α : Type} {f g : α → Nat} : ∀ (l : List α), (∀ a ∈ l, f a ≤ g a) → (l.map f).sum ≤ (l.map g).sum
  | [], _ => Nat.le_refl _
  | a :: l, h => by rw [List.map_cons, List.map_cons, List.sum_cons, List.sum_cons]; exact Nat.add_le_add (h a (by simp)) (sum_map_le l fun b hb => h b (by simp [hb]))
theorem parts_le {α β : Type} (hit hit' : Nat → Int → Bool) (t : Int → Nat → Nat → List α) (t' : Int → Nat → Nat → List β) (hh : ∀ p c, hit p c = true → hit' p c = true) (ht : ∀ s a b, (t s a b).length ≤ (t' s a b).length) : ∀ (l : List Item) (i j : Nat), (parts hit t l i j).length ≤ (parts hit' t' l i j).length := by
  intro l
  induction l with
  | nil => intro i j; rw [len_nil, len_nil]; exact Nat.le_refl _
  | cons x l ih =>
    intro i j
    by_cases hx : x.cls = 0
    · rw [len_sym hit t l _ _ hx, len_sym hit' t' l _ _ hx]
      exact sum_map_le _ fun m _ => Nat.mul_le_mul (ht _ _ _) (ih m j)
    · cases h : hit i x.cls
      · rw [len_miss hit t hx h]; exact Nat.zero_le _
      · by_cases hij : i < j
        · rw [len_hit hit t hx hij h, len_hit hit' t' hx hij (hh _ _ h)]
          exact ih _ _
        · rw [parts_short hit t _ _ _ (by simp; omega)]; exact Nat.zero_le _
theorem T_le (g : List Rule) (hit hit' : Nat → Int → Bool) (hh : ∀ p c, hit p c = true → hit' p c = true) : ∀ (f : Nat) (s : Int) (i j : Nat), (T g hit f s i j).length ≤ (T g hit' f s i j).length := by
  intro f
  induction f with
  | zero => intro s i j; exact Nat.le_refl _
  | succ f ih =>
    intro s i j
    rw [T, T, List.length_flatMap, List.length_flatMap]
    refine sum_map_le _ fun r _ => ?_
    rw [List.length_map, List.length_map]
    exact parts_le hit hit' _ _ hh ih _ i j
theorem snoc_rul (g : List Rule) (r : Rule) {k : Nat} (h : k < g.length) : rul (g ++ [r]) k = rul g k := by
  unfold rul
  rw [List.getD_eq_getElem?_getD, List.getD_eq_getElem?_getD, List.getElem?_append_left h]
theorem snoc_rules (g : List Rule) (r : Rule) (s : Int) : ∃ t, rulesOf (g ++ [r]) s = rulesOf g s ++ t := by
  unfold rulesOf
  rw [List.length_append, List.length_singleton, List.range_succ, List.filter_append]
  refine ⟨_, congrArg (· ++ _) (List.filter_congr fun k hk => ?_)⟩
  rw [List.mem_range] at hk
  rw [snoc_rul g r hk]
theorem T_snoc (g : List Rule) (r : Rule) (hit : Nat → Int → Bool) : ∀ (f : Nat) (s : Int) (i j : Nat), (T g hit f s i j).length ≤ (T (g ++ [r]) hit f s i j).length := by
  intro f
  induction f with
  | zero => intro s i j; exact Nat.le_refl _
  | succ f ih =>
    intro s i j
    obtain ⟨t, ht⟩ := snoc_rules g r s
    rw [T, T, ht, List.flatMap_append, List.length_append, List.length_flatMap, List.length_flatMap]
    refine Nat.le_trans (sum_map_le _ fun k hk => ?_) (Nat.le_add_right _ _)
    rw [List.length_map, List.length_map, snoc_rul g r (mem_rulesOf.1 hk).1]
    exact parts_le hit hit _ _ (fun _ _ h => h) ih _ i j
theorem isItems_mono {hit hit' : Nat → Int → Bool} {chk chk' : TrI → Int → Int → Int → Bool} (hh : ∀ p c, hit p c = true → hit' p c = true) (hc : ∀ x s a b, chk x s a b = true → chk' x s a b = true) (e : Int) : ∀ (l : List Item) (ts : List TrI) (i : Int), isItems hit chk e l ts i = true → isItems hit' chk' e l ts i = true := by
  intro l
  induction l with
  | nil => intro ts i h; exact h
  | cons x l ih =>
    intro ts i h
    rw [isItems.eq_def] at h ⊢
    dsimp only at h ⊢
    by_cases h1 : e ≤ i
    · rw [if_pos h1] at h; cases h
    · rw [if_neg h1] at h ⊢
      by_cases hx : x.cls ≠ 0
      · rw [if_pos hx] at h ⊢
        rw [Bool.and_eq_true] at h ⊢
        exact ⟨hh _ _ h.1, ih _ _ h.2⟩
      · rw [if_neg hx] at h ⊢
        cases ts with
        | nil => exact h
        | cons t ts =>
          dsimp only at h ⊢
          by_cases h2 : t.fin ≤ i ∨ e - l.length < t.fin
          · rw [if_pos h2] at h; cases h
          · rw [if_neg h2] at h ⊢
            rw [Bool.and_eq_true] at h ⊢
            exact ⟨hc _ _ _ _ h.1, ih _ _ h.2⟩
theorem isT_mono (g : List Rule) (hit hit' : Nat → Int → Bool) (hh : ∀ p c, hit p c = true → hit' p c = true) (q : List Rule) : ∀ (f : Nat) (x : TrI) (s i j : Int), isT g hit f x s i j = true → isT (g ++ q) hit' f x s i j = true := by
  intro f
  induction f with
  | zero => intro x s i j h; cases h
  | succ f ih =>
    intro x s i j h
    obtain ⟨r, fr, t0, sub⟩ := x
    rw [isT] at h ⊢
    split at h
    · cases h
    · rename_i hn
      have hr : r.toNat < g.length := by
        have h1 : ¬ r < 0 := fun h => hn (.inl h)
        have h2 : ¬ (g.length : Int) ≤ r := fun h => hn (.inr (.inl h))
        omega
      have e : rul (g ++ q) r.toNat = rul g r.toNat := by
        unfold rul
        rw [List.getD_eq_getElem?_getD, List.getD_eq_getElem?_getD, List.getElem?_append_left hr]
      rw [e, if_neg (by
        rintro (h1 | h1 | h1)
        · exact hn (.inl h1)
        · rw [List.length_append] at h1; omega
        · exact hn (.inr (.inr h1)))]
      exact isItems_mono hh ih j _ _ _ h
end Gr
end
section
/- A rule appended to a grammar of the call's own: the new one can be read. -/
namespace Go.Proofs.Ytkclifdbdnigaaa
open Go Go.RowKit
theorem OG.appended {w w2 : World} {base gg cap n c' : Nat} {v : Value} {g : List Gr.Rule} {G C : Nat → Nat} {x : Gr.Rule} {A' : Option Addr} (h : OG w base v g G C) (hn : g.length = n)
    (hown : w2.ownsRow base 37 2 (.slice (some ⟨gg, 0, none⟩) (n + 1) cap) (n + 1) (flatR G C g ++ [.int .i64 x.left, .slice A' x.right.length c']))
    (hit : Kt.Items w2 w2.heap.size A' x.right) (hx : x.right.length ≤ 4611686018427387904) (hlen : ∀ r, r < g.length → (Gr.rul g r).right.length ≤ 4611686018427387904)
    (hkk : ∀ q, q < w.heap.size → v.ownBlock ≠ some q → w2.heap[q]? = w.heap[q]?) : Kt.Rules w2 w2.heap.size (some ⟨gg, 0, none⟩) (g ++ [x]) := by
  subst hn
  have hcells : ∀ i u, (flatR G C g ++ [.int .i64 x.left, .slice A' x.right.length c'])[i]? = some u → w2.cell? ⟨gg, i, none⟩ = some u := fun i u hu => by
    have := hown.cells rfl i u hu
    rw [Addr.add_lit] at this
    simpa using this
  refine fun _ => ⟨gg, 0, rfl, (hown.lt gg rfl).2, fun r hr => ?_⟩
  rw [List.length_append, List.length_singleton] at hr
  rw [Nat.zero_add]
  by_cases e : r < g.length
  · rw [Gr.snoc_rul g x e]
    have hfl : ∀ q, q < 2 → (flatR G C g ++ [.int .i64 x.left, .slice A' x.right.length c'])[r * 2 + q]? = ([.int .i64 (Gr.rul g r).left, .slice (some ⟨G r, 0, none⟩) (Gr.rul g r).right.length (C r)] : List Value)[q]? := fun q hq => by
      rw [List.getElem?_append_left (by rw [flatR_len]; omega)]
      exact flatR_get G C g r q e hq
    have own2 := Kt.ownsRow_keep (h.its r e) (W' := w2) fun g' e' => by
      have e9 : G r = g' := by simpa [Value.ownBlock] using e'
      subst e9
      exact hkk _ ((h.its r e).lt (G r) rfl).2 (h.ne r e)
    refine ⟨hcells _ _ (hfl 0 (by omega)), some ⟨G r, 0, none⟩, C r, hcells _ _ (hfl 1 (by omega)), hlen r e, fun hp => ⟨G r, 0, rfl, (own2.lt (G r) rfl).2, fun k hk => ?_⟩⟩
    obtain ⟨e0, e1⟩ := flatI_get _ k hk
    have d0 := own2.cells rfl (k * 2) _ e0
    have d1 := own2.cells rfl (k * 2 + 1) _ e1
    rw [Addr.add_lit] at d0 d1
    exact ⟨by simpa using d0, by simpa [Nat.add_assoc] using d1⟩
  · obtain rfl : r = g.length := by omega
    have hr2 : Gr.rul (g ++ [x]) g.length = x := by
      unfold Gr.rul
      rw [List.getD_eq_getElem?_getD, List.getElem?_append_right (Nat.le_refl _)]
      simp
    rw [hr2]
    have hfl : ∀ q, (flatR G C g ++ [.int .i64 x.left, .slice A' x.right.length c'])[g.length * 2 + q]? = ([.int .i64 x.left, .slice A' x.right.length c'] : List Value)[q]? := fun q => by
      rw [List.getElem?_append_right (by rw [flatR_len]; omega), flatR_len]
      congr 1
      omega
    exact ⟨hcells _ _ (hfl 0), A', c', hcells _ _ (hfl 1), hx, hit⟩
/-- Behind the append: the new grammar, and what has stayed. -/
theorem OG.app_close {w5 w6 w6a w7 : World} {base gg cap c' : Nat} {v : Value} {g : List Gr.Rule} {G C : Nat → Nat} {x : Gr.Rule} {A' : Option Addr} {lf : Int} {m : Nat} (hlf : x.left = lf) (hm : x.right.length = m) (hb : Below w5.heap.size w5 w6) (hba : Below w6.heap.size w6 w6a) (h : OG w6 base v g G C) (hbase : w5.heap.size ≤ base)
    (hown : w7.ownsRow base 37 2 (.slice (some ⟨gg, 0, none⟩) (g.length + 1) cap) (g.length + 1) (flatR G C g ++ [.int .i64 lf, .slice A' m c'])) (hgr : w6a.grownBy w7 v.ownBlock)
    (hit : Kt.Items w5 w5.heap.size A' x.right) (hx : x.right.length ≤ 4611686018427387904) (hlen : ∀ r, r < g.length → (Gr.rul g r).right.length ≤ 8) :
    Kt.Rules w7 w7.heap.size (some ⟨gg, 0, none⟩) (g ++ [x]) ∧ Below w5.heap.size w5 w7 := by
  subst hlf hm
  have hs6 := hb.size
  have hs6a := hba.size
  have hb7 : Below w5.heap.size w5 w7 := (hb.trans (hba.mono hs6)).grown hgr (by omega) (fun q hq => Nat.le_trans hbase (h.own.lt q hq).1)
  exact ⟨OG.appended h rfl hown (hit.on hb7) hx (fun r hr => Nat.le_trans (hlen r hr) (by decide)) (fun q hq hnq => (hgr.block q (by omega) fun e => hnq e.symm).trans (hba.block q hq)), hb7⟩
theorem law_fn {P : Program} {ops : Array Oper} {o : Oper} {a : Act} {w : World} {K : Act → World → Prop} {Q : Exit → Act → World → Prop} {E : Prop} (X : Op) (hop : o.op = X) (hg : o.guard = none) (s : Nat) (R : World → Value → World → Prop)
    (H : ∀ KK : Act → World → Prop, (∀ v w', R w v w' → KK (a.put (some s) v) w') → Oper.wp P o a w KK Q) (hk : ∀ v w', R w v w' → K (a.put (some s) v) w') : if Region.wanted o (yielded ops a.tmps) = true then Oper.wp P o a w K Q else E := by
  have _ := hop
  rw [if_pos (by simp [Region.wanted, hg])]
  exact H K hk
theorem snoc_wf {g : List Gr.Rule} {x : Gr.Rule} (h : WfR g) (hx : ∀ y ∈ x.right, 0 ≤ y.cls ∧ y.cls ≤ 65535) : WfR (g ++ [x]) := fun r hr y hy => by
  rw [List.length_append, List.length_singleton] at hr
  by_cases e : r < g.length
  · rw [Gr.snoc_rul g x e] at hy
    exact h r e y hy
  · obtain rfl : r = g.length := by omega
    have hr2 : Gr.rul (g ++ [x]) g.length = x := by
      unfold Gr.rul
      rw [List.getD_eq_getElem?_getD, List.getElem?_append_right (Nat.le_refl _)]
      simp
    rw [hr2] at hy
    exact hx y hy
end Go.Proofs.Ytkclifdbdnigaaa
end
