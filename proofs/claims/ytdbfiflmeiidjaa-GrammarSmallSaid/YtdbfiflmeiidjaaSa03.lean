/- Joined: GraM, GrA, GrB, GrK. -/
import Derived.Lib.Hide
import Derived.Test.YtdbfiflmeiidjaaSa02
import Derived.Test.YtdbfiflmeiidjaaProg
import Derived.Deep.QuietTactic
import Derived.BigQuiet
import Derived.IntWalk
import Derived.Handy
import Derived.OwnWalk
import Derived.Outline
section
/- Grammars and their derivations: the plain mathematics. -/
namespace Gr
structure Item where
  cls:Int
  sym:Int
deriving DecidableEq
structure Rule where
  left:Int
  right:List Item
inductive Tr where
  | node (rule fr to:Nat) (sub:List Tr)
def parts {α:Type} (hit:Nat → Int → Bool) (t:Int → Nat → Nat → List α):List Item → Nat → Nat → List (List α)
  | [],i,j => if i = j then [[]] else []
  | x :: l,i,j =>
    if x.cls = 0 then (List.range' (i + 1) (j - i)).flatMap fun m => (t x.sym i m).flatMap fun a => (parts hit t l m j).map (a :: ·)
    else if i < j ∧ hit i x.cls = true then parts hit t l (i + 1) j else []
theorem flatMap_same {α β:Type} {f g:α → List β}:∀ (l:List α),(∀ a ∈ l,f a = g a) → l.flatMap f = l.flatMap g
  | [],_ => rfl
  | a :: l,h => by rw [List.flatMap_cons,List.flatMap_cons,h a (by simp),flatMap_same l fun b hb => h b (by simp [hb])]
theorem parts_short {α:Type} (hit:Nat → Int → Bool) (t:Int → Nat → Nat → List α):∀ (l:List Item) (i j:Nat),j < i + l.length → parts hit t l i j = []:=by
  intro l
  induction l with
  | nil => intro i j h;rw [parts,if_neg (by simp at h;omega)]
  | cons x l ih =>
    intro i j h;simp only [List.length_cons] at h;rw [parts];split
    · rw [List.flatMap_eq_nil_iff];intro m hm;rw [List.mem_range'_1] at hm;rw [List.flatMap_eq_nil_iff];intro a _;rw [ih m j (by omega),List.map_nil]
    · split
      · exact ih (i + 1) j (by omega)
      · rfl
theorem parts_congr {α:Type} (hit:Nat → Int → Bool) (t t':Int → Nat → Nat → List α):∀ (l:List Item) (i j:Nat),
    (∀ s a b,i ≤ a → a < b → b ≤ j → (b - a < j - i ∨ (∃ x,l = [x] ∧ x.cls = 0 ∧ x.sym = s ∧ a = i ∧ b = j)) → t s a b = t' s a b) → parts hit t l i j = parts hit t' l i j:=by
  intro l
  induction l with
  | nil => intro i j _;rfl
  | cons x l ih =>
    intro i j h;have hih:∀ m,i < m → parts hit t l m j = parts hit t' l m j:=fun m hm => ih m j fun s a b h1 h2 h3 _ => h s a b (by omega) h2 h3 (.inl (by omega))
    rw [parts,parts];split
    · rename_i hx;refine flatMap_same _ fun m hm => ?_
      rw [List.mem_range'_1] at hm;by_cases hl:m = j ∧ l ≠ []
      · have hp:0 < l.length:=List.length_pos_iff.2 hl.2;have z:∀ u:List α,(u.flatMap fun a => (parts hit t l m j).map (a :: ·)) = []:=fun u => List.flatMap_eq_nil_iff.2 fun a _ => by rw [parts_short hit t l m j (by omega)];rfl
        have z':∀ u:List α,(u.flatMap fun a => (parts hit t' l m j).map (a :: ·)) = []:=fun u => List.flatMap_eq_nil_iff.2 fun a _ => by rw [parts_short hit t' l m j (by omega)];rfl
        rw [z,z']
      · have e:t x.sym i m = t' x.sym i m:=h x.sym i m (Nat.le_refl _) (by omega) (by omega) (by
          by_cases hm2:m = j
          · right;have hl2:l = []:=by
              by_cases hl3:l = []
              · exact hl3
              · exact absurd ⟨hm2,hl3⟩ hl
            exact ⟨x,by rw [hl2],hx,rfl,rfl,hm2⟩
          · left;omega)
        rw [e,hih m (by omega)]
    · split
      · exact hih (i + 1) (by omega)
      · rfl
def zero:Rule:=⟨0,[]⟩
def rul (g:List Rule) (r:Nat):Rule:=g.getD r zero
def rulesOf (g:List Rule) (s:Int):List Nat:=(List.range g.length).filter fun r => decide ((rul g r).left = s)
def T (g:List Rule) (hit:Nat → Int → Bool):Nat → Int → Nat → Nat → List Tr
  | 0,_,_,_ => []
  | f + 1,s,i,j => (rulesOf g s).flatMap fun r => (parts hit (T g hit f) (rul g r).right i j).map (Tr.node r i j)
structure Ranked (g:List Rule) (ρ:Int → Nat):Prop where
  le:∀ s,ρ s ≤ 63
  dec:∀ r,r < g.length → ∀ x,(rul g r).right = [x] → x.cls = 0 → ρ x.sym < ρ (rul g r).left
theorem mem_rulesOf {g:List Rule} {s:Int} {r:Nat}:r ∈ rulesOf g s ↔ r < g.length ∧ (rul g r).left = s:=by
  unfold rulesOf;rw [List.mem_filter,List.mem_range,decide_eq_true_eq]
theorem T_stable {g:List Rule} {ρ:Int → Nat} (hR:Ranked g ρ) (hit:Nat → Int → Bool):∀ (f:Nat) (s:Int) (i j:Nat),(j - i) * 64 + ρ s + 1 ≤ f → T g hit f s i j = T g hit (f + 1) s i j:=by
  intro f
  induction f with
  | zero => intro s i j h;omega
  | succ f ih =>
    intro s i j h;rw [T,T];refine flatMap_same _ fun r hr => ?_
    rw [mem_rulesOf] at hr;rw [parts_congr hit (T g hit f) (T g hit (f + 1)) (rul g r).right i j fun s' a b h1 h2 h3 h4 => ?_];refine ih s' a b ?_;rcases h4 with h4 | ⟨x,hx1,hx2,rfl,rfl,rfl⟩
    · have:=hR.le s';omega
    · have:=hR.dec r hr.1 x hx1 hx2;rw [hr.2] at this;omega
def D (g:List Rule) (hit:Nat → Int → Bool) (n:Nat):Int → Nat → Nat → List Tr:=T g hit (64 * (n + 1))
theorem D_eq {g:List Rule} {ρ:Int → Nat} (hR:Ranked g ρ) (hit:Nat → Int → Bool) (n:Nat) (s:Int) (i j:Nat) (h:j - i ≤ n) :
    D g hit n s i j = (rulesOf g s).flatMap fun r => (parts hit (D g hit n) (rul g r).right i j).map (Tr.node r i j):=by
  have:=hR.le s;unfold D;rw [T_stable hR hit _ s i j (by omega),T]
section
variable {α:Type} (hit:Nat → Int → Bool) (t:Int → Nat → Nat → List α)
theorem len_nil (i j:Nat):(parts hit t [] i j).length = if i = j then 1 else 0:=by
  rw [parts];split <;> rfl
theorem len_hit {x:Item} {l:List Item} {i j:Nat} (hx:x.cls ≠ 0) (hij:i < j) (hh:hit i x.cls = true):parts hit t (x :: l) i j = parts hit t l (i + 1) j:=by
  rw [parts,if_neg hx,if_pos ⟨hij,hh⟩]
theorem len_miss {x:Item} {l:List Item} {i j:Nat} (hx:x.cls ≠ 0) (hh:hit i x.cls = false):parts hit t (x :: l) i j = []:=by
  rw [parts,if_neg hx,if_neg (by rw [hh];simp)]
def upto (x:Item) (l:List Item) (i j k:Nat):Nat:=((List.range' (i + 1) k).map fun m => (t x.sym i m).length * (parts hit t l m j).length).sum
theorem upto_zero (x:Item) (l:List Item) (i j:Nat):upto hit t x l i j 0 = 0:=rfl
theorem upto_succ (x:Item) (l:List Item) (i j k:Nat):upto hit t x l i j (k + 1) = upto hit t x l i j k + (t x.sym i (i + 1 + k)).length * (parts hit t l (i + 1 + k) j).length:=by
  unfold upto;rw [List.range'_concat,List.map_append,List.sum_append];simp
theorem len_sym {x:Item} (l:List Item) (i j:Nat) (hx:x.cls = 0):(parts hit t (x :: l) i j).length = upto hit t x l i j (j - i):=by
  rw [parts,if_pos hx,List.length_flatMap];unfold upto;congr 1;refine List.map_congr_left fun m _ => ?_
  rw [List.length_flatMap];simp [List.map_const',List.sum_replicate_nat]
theorem upto_tail (x:Item) (l:List Item) (i j k:Nat) (h:j ≤ i + k + l.length):∀ d,upto hit t x l i j (k + d) = upto hit t x l i j k
  | 0 => rfl
  | d + 1 => by
    rw [← Nat.add_assoc,upto_succ,upto_tail x l i j k h d,parts_short hit t l _ j (by omega)];simp
theorem len_sym_to {x:Item} (l:List Item) {i j k:Nat} (hx:x.cls = 0) (hk:i + k + l.length = j):(parts hit t (x :: l) i j).length = upto hit t x l i j k:=by
  rw [len_sym hit t l i j hx,show j - i = k + l.length from by omega];exact upto_tail hit t x l i j k (by omega) _
theorem upto_le (x:Item) (l:List Item) (i j k:Nat):∀ d,upto hit t x l i j k ≤ upto hit t x l i j (k + d)
  | 0 => Nat.le_refl _
  | d + 1 => by
    have:=upto_le x l i j k d;rw [← Nat.add_assoc,upto_succ];omega
end
theorem sum_le_mul {l:List Nat} {c:Nat} (h:∀ x ∈ l,x ≤ c):l.sum ≤ l.length * c:=by
  induction l with
  | nil => simp
  | cons x l ih =>
    have:=ih fun y hy => h y (by simp [hy])
    have h2:=h x (by simp);rw [List.sum_cons,List.length_cons,Nat.add_mul,Nat.one_mul];omega
theorem sum_mul_le {l:List Nat} {c m:Nat} (h:∀ x ∈ l,x * m ≤ c):l.sum * m ≤ l.length * c:=by
  induction l with
  | nil => simp
  | cons x l ih =>
    have:=ih fun y hy => h y (by simp [hy])
    have h2:=h x (by simp);rw [List.sum_cons,List.length_cons,Nat.add_mul,Nat.add_mul,Nat.one_mul];omega
theorem pw (a b:Nat) (h:a ≤ b):2 ^ a ≤ 2 ^ b:=Nat.pow_le_pow_right (by omega) h
theorem pow_le {a x y x' y':Nat} (h:a * 2 ^ x ≤ 2 ^ y) (d:y + x' ≤ y' + x) (hx:x' ≤ x):a * 2 ^ x' ≤ 2 ^ y':=by
  obtain ⟨k,rfl⟩:∃ k,x = x' + k:=⟨x - x',by omega⟩;have h2:a * 2 ^ x' * 2 ^ k ≤ 2 ^ y' * 2 ^ k:=by
    rw [Nat.mul_assoc,← Nat.pow_add,← Nat.pow_add];exact Nat.le_trans h (pw _ _ (by omega))
  exact Nat.le_of_mul_le_mul_right h2 (Nat.pow_pos (by omega))
theorem pow_le_up {a x y k:Nat} (h:a * 2 ^ x ≤ 2 ^ y):a * 2 ^ (x + k) ≤ 2 ^ (y + k):=by
  rw [Nat.pow_add,Nat.pow_add,← Nat.mul_assoc];exact Nat.mul_le_mul_right _ h
theorem parts_bd {c:Nat} (hc:c = 1028) {α:Type} (hit:Nat → Int → Bool) (t:Int → Nat → Nat → List α):∀ (l:List Item) (i j:Nat),j ≤ i + 64 →
    (∀ s a b,i ≤ a → a < b → b ≤ j → (b - a < j - i ∨ l.length = 1) → (t s a b).length * 2 ^ c ≤ 2 ^ (1036 * (b - a) + 504)) → (parts hit t l i j).length * 2 ^ (518 * l.length) ≤ 2 ^ (1036 * (j - i)):=by
  intro l
  induction l with
  | nil =>
    intro i j _ _;rw [len_nil];split
    · simp only [List.length_nil,Nat.mul_zero,Nat.pow_zero,Nat.mul_one];exact Nat.one_le_two_pow
    · simp
  | cons x l ih =>
    intro i j h64 h;have hih:∀ m,i < m → (parts hit t l m j).length * 2 ^ (518 * l.length) ≤ 2 ^ (1036 * (j - m)):=fun m hm => ih m j (by omega) fun s a b h1 h2 h3 _ => h s a b (by omega) h2 h3 (.inl (by omega))
    rw [List.length_cons];by_cases hx:x.cls = 0
    · rw [len_sym hit t l i j hx];have hs:upto hit t x l i j (j - i) * 2 ^ (518 * (l.length + 1) + 6) ≤ (j - i) * 2 ^ (1036 * (j - i)):=by
        unfold upto;have:=sum_mul_le (l:=(List.range' (i + 1) (j - i)).map fun m => (t x.sym i m).length * (parts hit t l m j).length) (c:=2 ^ (1036 * (j - i))) (m:=2 ^ (518 * (l.length + 1) + 6)) (fun y hy => by
          rw [List.mem_map] at hy;obtain ⟨m,hm,rfl⟩:=hy;rw [List.mem_range'_1] at hm;by_cases hl:m = j ∧ l ≠ []
          · have hp:0 < l.length:=List.length_pos_iff.2 hl.2;rw [parts_short hit t l m j (by omega)];simp
          · have h1:=h x.sym i m (Nat.le_refl _) (by omega) (by omega) (by
              by_cases hm2:m = j
              · right;by_cases hl3:l = []
                · rw [hl3];rfl
                · exact absurd ⟨hm2,hl3⟩ hl
              · left;omega)
            have h2:=hih m (by omega);have h3:=Nat.mul_le_mul h1 h2;have e1:(t x.sym i m).length * 2 ^ c * ((parts hit t l m j).length * 2 ^ (518 * l.length)) = (t x.sym i m).length * (parts hit t l m j).length * 2 ^ (c + 518 * l.length):=by
              rw [Nat.pow_add];simp only [Nat.mul_assoc,Nat.mul_left_comm,Nat.mul_comm]
            rw [e1,← Nat.pow_add] at h3;exact pow_le h3 (by omega) (by omega))
        rwa [List.length_map,List.length_range'] at this
      have h6:(j - i) * 2 ^ (1036 * (j - i)) ≤ 2 ^ (1036 * (j - i) + 6):=by
        rw [Nat.pow_add,Nat.mul_comm];exact Nat.mul_le_mul_left _ (by omega)
      exact pow_le (Nat.le_trans hs h6) (by omega) (by omega)
    · cases hh:hit i x.cls
      · rw [len_miss hit t hx hh];simp
      · by_cases hij:i < j
        · rw [len_hit hit t hx hij hh];have:=hih (i + 1) (by omega);have h2:=pow_le_up (k:=518) this;exact pow_le h2 (by omega) (by omega)
        · rw [parts_short hit t (x :: l) i j (by simp;omega)];simp
def cnt (g:List Rule) (hit:Nat → Int → Bool) (n:Nat) (s:Int) (i j:Nat):Nat:=(D g hit n s i j).length
def ways (g:List Rule) (hit:Nat → Int → Bool) (n:Nat) (l:List Item) (i j:Nat):Nat:=(parts hit (D g hit n) l i j).length
theorem cnt_eq {g:List Rule} {ρ:Int → Nat} (hR:Ranked g ρ) (hit:Nat → Int → Bool) (n:Nat) (s:Int) (i j:Nat) (h:j - i ≤ n) :
    cnt g hit n s i j = ((rulesOf g s).map fun r => ways g hit n (rul g r).right i j).sum:=by
  unfold cnt;rw [D_eq hR hit n s i j h,List.length_flatMap];simp [ways]
theorem ways_one {g:List Rule} {hit:Nat → Int → Bool} {n:Nat} {x:Item} {i j:Nat} (hx:x.cls = 0) (hij:i < j):ways g hit n [x] i j = cnt g hit n x.sym i j:=by
  obtain ⟨k,rfl⟩:∃ k,j = i + 1 + k:=⟨j - i - 1,by omega⟩;unfold ways;rw [len_sym_to hit (D g hit n) [] (k:=k + 1) hx (by simp;omega),upto_succ,len_nil,if_pos rfl,Nat.mul_one];have:upto hit (D g hit n) x [] i (i + 1 + k) k = 0:=by
    unfold upto;rw [List.sum_eq_zero_iff_forall_eq_nat];intro y hy;rw [List.mem_map] at hy;obtain ⟨m,hm,rfl⟩:=hy;rw [List.mem_range'_1] at hm;rw [len_nil,if_neg (by omega),Nat.mul_zero]
  rw [this,Nat.zero_add];rfl
theorem cnt_bd {c d:Nat} (hc:c = 1028) (hd:d = 1036) {g:List Rule} {ρ:Int → Nat} (hR:Ranked g ρ) (hg:g.length ≤ 256) (hit:Nat → Int → Bool) (n:Nat):∀ (N:Nat) (s:Int) (i j:Nat),(j - i) * 64 + ρ s ≤ N → i < j → j ≤ i + 64 → j - i ≤ n →
    cnt g hit n s i j * 2 ^ c ≤ 2 ^ (1036 * (j - i) + 8 * ρ s):=by
  intro N
  induction N with
  | zero => intro s i j h hij;omega
  | succ N ih =>
    intro s i j hN hij h64 hn;rw [cnt_eq hR hit n s i j hn];have hone:∀ r ∈ rulesOf g s,ways g hit n (rul g r).right i j * 2 ^ d ≤ 2 ^ (1036 * (j - i) + 8 * ρ s):=by
      intro r hr;rw [mem_rulesOf] at hr;have hbig:∀ l:List Item,2 ≤ l.length → ways g hit n l i j * 2 ^ d ≤ 2 ^ (1036 * (j - i) + 8 * ρ s):=fun l hl => by
        have:=parts_bd hc hit (D g hit n) l i j h64 (fun s' a b h1 h2 h3 h4 => by
          have hb:=hR.le s';have:=ih s' a b (by omega) h2 (by omega) (by omega);exact pow_le this (by omega) (by omega))
        exact pow_le this (by omega) (by omega)
      rcases hrr:(rul g r).right with _ | ⟨x,_ | ⟨y,l⟩⟩
      · unfold ways;rw [len_nil,if_neg (by omega)];simp
      · by_cases hx:x.cls = 0
        · rw [ways_one hx hij];have hd:=hR.dec r hr.1 x hrr hx;rw [hr.2] at hd;have:=ih x.sym i j (by omega) hij h64 hn;have h2:=pow_le_up (k:=8) this;exact pow_le h2 (by omega) (by omega)
        · unfold ways;cases hh:hit i x.cls
          · rw [len_miss hit _ hx hh];simp
          · rw [len_hit hit _ hx hij hh,len_nil];split
            · rw [Nat.one_mul];exact pw _ _ (by omega)
            · simp
      · exact hbig _ (by simp)
    have hs:=sum_mul_le (l:=(rulesOf g s).map fun r => ways g hit n (rul g r).right i j) (c:=2 ^ (1036 * (j - i) + 8 * ρ s)) (m:=2 ^ d) (fun y hy => by
      rw [List.mem_map] at hy;obtain ⟨r,hr,rfl⟩:=hy;exact hone r hr)
    have hl:((rulesOf g s).map fun r => ways g hit n (rul g r).right i j).length ≤ 2 ^ 8:=by
      rw [List.length_map];have:=List.length_filter_le (fun r => decide ((rul g r).left = s)) (List.range g.length);rw [List.length_range] at this;unfold rulesOf;omega
    have h8:((rulesOf g s).map fun r => ways g hit n (rul g r).right i j).sum * 2 ^ d ≤ 2 ^ (1036 * (j - i) + 8 * ρ s + 8):=by
      refine Nat.le_trans hs ?_;rw [Nat.pow_add _ _ 8,Nat.mul_comm];exact Nat.mul_le_mul_left _ hl
    exact pow_le h8 (by omega) (by omega)
theorem cnt_lt {g:List Rule} {ρ:Int → Nat} (hR:Ranked g ρ) (hg:g.length ≤ 256) (hit:Nat → Int → Bool) (n:Nat) (s:Int) (i j:Nat) (h30:j ≤ i + 30) (hn:j - i ≤ n) {N:Nat} (hN:32000 ≤ N):cnt g hit n s i j < 2 ^ N:=by
  have hρ:=hR.le s;by_cases hij:i < j
  · obtain ⟨c,hc⟩:∃ c,c = 1028:=⟨_,rfl⟩;obtain ⟨d,hd⟩:∃ d,d = 1036:=⟨_,rfl⟩;have h:=cnt_bd hc hd hR hg hit n _ s i j (Nat.le_refl _) hij (by omega) hn;have h2:cnt g hit n s i j * 2 ^ 0 ≤ 2 ^ (N - 1):=pow_le h (by omega) (by omega);rw [Nat.pow_zero,Nat.mul_one] at h2;exact Nat.lt_of_le_of_lt h2 (Nat.pow_lt_pow_right (by omega) (by omega))
  · rw [cnt_eq hR hit n s i j hn];have:((rulesOf g s).map fun r => ways g hit n (rul g r).right i j).sum ≤ ((rulesOf g s).map fun r => ways g hit n (rul g r).right i j).length * 1:=sum_le_mul fun y hy => by
      rw [List.mem_map] at hy;obtain ⟨r,_,rfl⟩:=hy;unfold ways;rcases hrr:(rul g r).right with _ | ⟨x,l⟩
      · rw [len_nil];split <;> omega
      · rw [parts_short hit _ _ _ _ (by simp;omega)];simp
    have hl:((rulesOf g s).map fun r => ways g hit n (rul g r).right i j).length ≤ 2 ^ 8:=by
      rw [List.length_map];have:=List.length_filter_le (fun r => decide ((rul g r).left = s)) (List.range g.length);rw [List.length_range] at this;unfold rulesOf;omega
    have h3:(2:Nat) ^ 8 < 2 ^ N:=Nat.pow_lt_pow_right (by omega) (by omega);omega
theorem parts_bd1 {c:Nat} (hc:c = 139) {α:Type} (hit:Nat → Int → Bool) (t:Int → Nat → Nat → List α):∀ (l:List Item) (i j:Nat),j ≤ i + 64 →
    (∀ s a b,i ≤ a → a < b → b ≤ j → (b - a < j - i ∨ l.length = 1) → (t s a b).length * 2 ^ c ≤ 2 ^ (140 * (b - a) + 63)) → (parts hit t l i j).length * 2 ^ (70 * l.length) ≤ 2 ^ (140 * (j - i)):=by
  intro l
  induction l with
  | nil =>
    intro i j _ _;rw [len_nil];split
    · simp only [List.length_nil,Nat.mul_zero,Nat.pow_zero,Nat.mul_one];exact Nat.one_le_two_pow
    · simp
  | cons x l ih =>
    intro i j h64 h;have hih:∀ m,i < m → (parts hit t l m j).length * 2 ^ (70 * l.length) ≤ 2 ^ (140 * (j - m)):=fun m hm => ih m j (by omega) fun s a b h1 h2 h3 _ => h s a b (by omega) h2 h3 (.inl (by omega))
    rw [List.length_cons];by_cases hx:x.cls = 0
    · rw [len_sym hit t l i j hx];have hs:upto hit t x l i j (j - i) * 2 ^ (70 * (l.length + 1) + 6) ≤ (j - i) * 2 ^ (140 * (j - i)):=by
        unfold upto;have:=sum_mul_le (l:=(List.range' (i + 1) (j - i)).map fun m => (t x.sym i m).length * (parts hit t l m j).length) (c:=2 ^ (140 * (j - i))) (m:=2 ^ (70 * (l.length + 1) + 6)) (fun y hy => by
          rw [List.mem_map] at hy;obtain ⟨m,hm,rfl⟩:=hy;rw [List.mem_range'_1] at hm;by_cases hl:m = j ∧ l ≠ []
          · have hp:0 < l.length:=List.length_pos_iff.2 hl.2;rw [parts_short hit t l m j (by omega)];simp
          · have h1:=h x.sym i m (Nat.le_refl _) (by omega) (by omega) (by
              by_cases hm2:m = j
              · right;by_cases hl3:l = []
                · rw [hl3];rfl
                · exact absurd ⟨hm2,hl3⟩ hl
              · left;omega)
            have h2:=hih m (by omega);have h3:=Nat.mul_le_mul h1 h2;have e1:(t x.sym i m).length * 2 ^ c * ((parts hit t l m j).length * 2 ^ (70 * l.length)) = (t x.sym i m).length * (parts hit t l m j).length * 2 ^ (c + 70 * l.length):=by
              rw [Nat.pow_add];simp only [Nat.mul_assoc,Nat.mul_left_comm,Nat.mul_comm]
            rw [e1,← Nat.pow_add] at h3;exact pow_le h3 (by omega) (by omega))
        rwa [List.length_map,List.length_range'] at this
      have h6:(j - i) * 2 ^ (140 * (j - i)) ≤ 2 ^ (140 * (j - i) + 6):=by
        rw [Nat.pow_add,Nat.mul_comm];exact Nat.mul_le_mul_left _ (by omega)
      exact pow_le (Nat.le_trans hs h6) (by omega) (by omega)
    · cases hh:hit i x.cls
      · rw [len_miss hit t hx hh];simp
      · by_cases hij:i < j
        · rw [len_hit hit t hx hij hh];have:=hih (i + 1) (by omega);have h2:=pow_le_up (k:=70) this;exact pow_le h2 (by omega) (by omega)
        · rw [parts_short hit t (x :: l) i j (by simp;omega)];simp
theorem cnt_bd1 {c d:Nat} (hc:c = 139) (hd:d = 140) {g:List Rule} {ρ:Int → Nat} (hR:Ranked g ρ) (hg:g.length ≤ 2) (hit:Nat → Int → Bool) (n:Nat):∀ (N:Nat) (s:Int) (i j:Nat),(j - i) * 64 + ρ s ≤ N → i < j → j ≤ i + 64 → j - i ≤ n →
    cnt g hit n s i j * 2 ^ c ≤ 2 ^ (140 * (j - i) + 1 * ρ s):=by
  intro N
  induction N with
  | zero => intro s i j h hij;omega
  | succ N ih =>
    intro s i j hN hij h64 hn;rw [cnt_eq hR hit n s i j hn];have hone:∀ r ∈ rulesOf g s,ways g hit n (rul g r).right i j * 2 ^ d ≤ 2 ^ (140 * (j - i) + 1 * ρ s):=by
      intro r hr;rw [mem_rulesOf] at hr;have hbig:∀ l:List Item,2 ≤ l.length → ways g hit n l i j * 2 ^ d ≤ 2 ^ (140 * (j - i) + 1 * ρ s):=fun l hl => by
        have:=parts_bd1 hc hit (D g hit n) l i j h64 (fun s' a b h1 h2 h3 h4 => by
          have hb:=hR.le s';have:=ih s' a b (by omega) h2 (by omega) (by omega);exact pow_le this (by omega) (by omega))
        exact pow_le this (by omega) (by omega)
      rcases hrr:(rul g r).right with _ | ⟨x,_ | ⟨y,l⟩⟩
      · unfold ways;rw [len_nil,if_neg (by omega)];simp
      · by_cases hx:x.cls = 0
        · rw [ways_one hx hij];have hd:=hR.dec r hr.1 x hrr hx;rw [hr.2] at hd;have:=ih x.sym i j (by omega) hij h64 hn;have h2:=pow_le_up (k:=1) this;exact pow_le h2 (by omega) (by omega)
        · unfold ways;cases hh:hit i x.cls
          · rw [len_miss hit _ hx hh];simp
          · rw [len_hit hit _ hx hij hh,len_nil];split
            · rw [Nat.one_mul];exact pw _ _ (by omega)
            · simp
      · exact hbig _ (by simp)
    have hs:=sum_mul_le (l:=(rulesOf g s).map fun r => ways g hit n (rul g r).right i j) (c:=2 ^ (140 * (j - i) + 1 * ρ s)) (m:=2 ^ d) (fun y hy => by
      rw [List.mem_map] at hy;obtain ⟨r,hr,rfl⟩:=hy;exact hone r hr)
    have hl:((rulesOf g s).map fun r => ways g hit n (rul g r).right i j).length ≤ 2 ^ 1:=by
      rw [List.length_map];have:=List.length_filter_le (fun r => decide ((rul g r).left = s)) (List.range g.length);rw [List.length_range] at this;unfold rulesOf;omega
    have h8:((rulesOf g s).map fun r => ways g hit n (rul g r).right i j).sum * 2 ^ d ≤ 2 ^ (140 * (j - i) + 1 * ρ s + 1):=by
      refine Nat.le_trans hs ?_;rw [Nat.pow_add _ _ 1,Nat.mul_comm];exact Nat.mul_le_mul_left _ hl
    exact pow_le h8 (by omega) (by omega)
theorem cnt_lt1 {g:List Rule} {ρ:Int → Nat} (hR:Ranked g ρ) (hg:g.length ≤ 2) (hit:Nat → Int → Bool) (n:Nat) (s:Int) (i j:Nat) (h30:j ≤ i + 40) (hn:j - i ≤ n) {N:Nat} (hN:32000 ≤ N):cnt g hit n s i j < 2 ^ N:=by
  have hρ:=hR.le s;by_cases hij:i < j
  · obtain ⟨c,hc⟩:∃ c,c = 139:=⟨_,rfl⟩;obtain ⟨d,hd⟩:∃ d,d = 140:=⟨_,rfl⟩;have h:=cnt_bd1 hc hd hR hg hit n _ s i j (Nat.le_refl _) hij (by omega) hn;have h2:cnt g hit n s i j * 2 ^ 0 ≤ 2 ^ (N - 1):=pow_le h (by omega) (by omega);rw [Nat.pow_zero,Nat.mul_one] at h2;exact Nat.lt_of_le_of_lt h2 (Nat.pow_lt_pow_right (by omega) (by omega))
  · rw [cnt_eq hR hit n s i j hn];have:((rulesOf g s).map fun r => ways g hit n (rul g r).right i j).sum ≤ ((rulesOf g s).map fun r => ways g hit n (rul g r).right i j).length * 1:=sum_le_mul fun y hy => by
      rw [List.mem_map] at hy;obtain ⟨r,_,rfl⟩:=hy;unfold ways;rcases hrr:(rul g r).right with _ | ⟨x,l⟩
      · rw [len_nil];split <;> omega
      · rw [parts_short hit _ _ _ _ (by simp;omega)];simp
    have hl:((rulesOf g s).map fun r => ways g hit n (rul g r).right i j).length ≤ 2 ^ 1:=by
      rw [List.length_map];have:=List.length_filter_le (fun r => decide ((rul g r).left = s)) (List.range g.length);rw [List.length_range] at this;unfold rulesOf;omega
    have h3:(2:Nat) ^ 8 < 2 ^ N:=Nat.pow_lt_pow_right (by omega) (by omega);omega
def Fit (g:List Rule) (n:Nat):Prop:=n ≤ 30 ∨ (n ≤ 40 ∧ g.length ≤ 2)
theorem Fit.le {g:List Rule} {n:Nat} (h:Fit g n):n ≤ 40:=by unfold Fit at h;omega
theorem cnt_fit {g:List Rule} {ρ:Int → Nat} (hR:Ranked g ρ) (hg:g.length ≤ 256) (hit:Nat → Int → Bool) (n:Nat) (s:Int) (i j:Nat) {q:Nat} (hf:Fit g q) (hq:j ≤ i + q) (hn:j - i ≤ n) {N:Nat} (hN:32000 ≤ N):cnt g hit n s i j < 2 ^ N:=by
  unfold Fit at hf;rcases hf with h | ⟨h,h2⟩
  · exact cnt_lt hR hg hit n s i j (by omega) hn hN
  · exact cnt_lt1 hR h2 hit n s i j (by omega) hn hN
end Gr
end
section
/- Grammars in memory. -/
namespace Gr
def itm (l:List Item) (k:Nat):Item:=l.getD k ⟨0,0⟩
end Gr
namespace Kt
open Go Go.RowKit
def Items (w:World) (B:Nat) (A:Option Addr) (l:List Gr.Item):Prop :=
  0 < l.length → ∃ b o,A = some ⟨b,o,none⟩ ∧ b < B ∧ ∀ k,k < l.length → w.cell? ⟨b,o + k * 2,none⟩ = some (.int .u16 (Gr.itm l k).cls) ∧ w.cell? ⟨b,o + k * 2 + 1,none⟩ = some (.int .i64 (Gr.itm l k).sym)
def Rules (w:World) (B:Nat) (A:Option Addr) (g:List Gr.Rule):Prop :=
  0 < g.length → ∃ b o,A = some ⟨b,o,none⟩ ∧ b < B ∧ ∀ r,r < g.length → w.cell? ⟨b,o + r * 2,none⟩ = some (.int .i64 (Gr.rul g r).left) ∧
    ∃ A' c',w.cell? ⟨b,o + r * 2 + 1,none⟩ = some (.slice A' (Gr.rul g r).right.length c') ∧ (Gr.rul g r).right.length ≤ 4611686018427387904 ∧ Items w B A' (Gr.rul g r).right
variable {w w':World} {B B':Nat} {A:Option Addr} {l:List Gr.Item} {g:List Gr.Rule}
theorem Items.keep (h:Items w B A l) (hk:∀ p:Addr,p.block < B → w'.cell? p = w.cell? p):Items w' B A l:=fun hn => by
  obtain ⟨b,o,e,hb,hc⟩:=h hn;exact ⟨b,o,e,hb,fun k hkl => ⟨(hk _ hb).trans (hc k hkl).1,(hk _ hb).trans (hc k hkl).2⟩⟩
theorem Items.more (h:Items w B A l) (hB:B ≤ B'):Items w B' A l:=fun hn => by
  obtain ⟨b,o,e,hb,hc⟩:=h hn;exact ⟨b,o,e,by omega,hc⟩
theorem Items.below (h:Items w B A l) (hb:Below B w w'):Items w' B A l:=h.keep fun _ hp => hb.cell hp
theorem Items.on (h:Items w w.heap.size A l) (hb:Below w.heap.size w w'):Items w' w'.heap.size A l:=(h.below hb).more hb.size
theorem Items.drewN (h:Items w B A l) (n:Nat):Items (w.drewN n) B A l:=h
theorem Items.alloc (h:Items w B A l) (hB:B ≤ w.heap.size) (o:Obj):Items (w.alloc o) B A l:=h.keep fun p hp => World.cell?_alloc_lt w o p (by omega)
theorem Rules.keep (h:Rules w B A g) (hk:∀ p:Addr,p.block < B → w'.cell? p = w.cell? p):Rules w' B A g:=fun hn => by
  obtain ⟨b,o,e,hb,hc⟩:=h hn;refine ⟨b,o,e,hb,fun r hr => ?_⟩;obtain ⟨h1,A',c',h2,h3,h4⟩:=hc r hr;exact ⟨(hk _ hb).trans h1,A',c',(hk _ hb).trans h2,h3,h4.keep hk⟩
theorem Rules.more (h:Rules w B A g) (hB:B ≤ B'):Rules w B' A g:=fun hn => by
  obtain ⟨b,o,e,hb,hc⟩:=h hn;refine ⟨b,o,e,by omega,fun r hr => ?_⟩;obtain ⟨h1,A',c',h2,h3,h4⟩:=hc r hr;exact ⟨h1,A',c',h2,h3,h4.more hB⟩
theorem Rules.below (h:Rules w B A g) (hb:Below B w w'):Rules w' B A g:=h.keep fun _ hp => hb.cell hp
theorem Rules.on (h:Rules w w.heap.size A g) (hb:Below w.heap.size w w'):Rules w' w'.heap.size A g:=(h.below hb).more hb.size
theorem Rules.drewN (h:Rules w B A g) (n:Nat):Rules (w.drewN n) B A g:=h
theorem Rules.alloc (h:Rules w B A g) (hB:B ≤ w.heap.size) (o:Obj):Rules (w.alloc o) B A g:=h.keep fun p hp => World.cell?_alloc_lt w o p (by omega)
end Kt
end
section
/- Which rules are right: symbolRight, checked: their walks. -/
namespace Gr
def symOk (s:Int):Bool:=decide (0 ≤ s ∧ s < 64)
def itemOk (x:Item):Bool:=symOk x.sym && (decide (x.cls = 0) || decide (x.sym = 0))
def ruleE (r:Rule):Int:=if symOk r.left = false then 90 else if r.right.length = 0 ∨ 8 < r.right.length then 91 else if r.right.all itemOk = false then 90 else 0
theorem take_succ (l:List Item) (k:Nat) (h:k < l.length):l.take (k + 1) = l.take k ++ [itm l k]:=by
  rw [List.take_succ_eq_append_getElem h];unfold itm;rw [List.getD_eq_getElem?_getD,List.getElem?_eq_getElem h];rfl
theorem all_false (l:List Item) (k:Nat) (h:(l.take k).all itemOk = false):l.all itemOk = false:=by
  rw [← List.take_append_drop k l,List.all_append,h,Bool.false_and]
end Gr
namespace Go.Proofs.Ytdbfiflmeiidjaa
open Go Go.RowKit
theorem symbolRight_any (s:Int) (w:World):Calls Try.prog 57 #[.int .i64 s] w fun e w' => e = .returned (.bool (Gr.symOk s)) ∧ w = w':=by
  by_cases h0:0 ≤ s
  · by_cases h1:s < 64
    · have E:Hid (Gr.symOk s = true):=Lib.hid (decide_eq_true ⟨h0,h1⟩);go_enter Try.func57,Try.ntmps57;go_wp2;go_ret;exact ⟨Kt.ret_bool E.out.symm,rfl⟩
    · have E:Hid (Gr.symOk s = false):=Lib.hid (decide_eq_false (by omega));go_enter Try.func57,Try.ntmps57;go_wp2;go_ret;exact ⟨Kt.ret_bool E.out.symm,rfl⟩
  · have E:Hid (Gr.symOk s = false):=Lib.hid (decide_eq_false (by omega));go_enter Try.func57,Try.ntmps57;go_wp2;go_ret;exact ⟨Kt.ret_bool E.out.symm,rfl⟩
set_option maxHeartbeats 1000000 in
theorem checked_any (s:Int) (A:Option Addr) (n cp:Nat) (l:List Gr.Item) (w:World) (hl:l.length = n) (hn:n ≤ 4611686018427387904) (hi:Kt.Items w w.heap.size A l) :
    Calls Try.prog 44 #[.agg #[.int .i64 s,.slice A n cp]] w fun e w' => e = .returned (.int .i64 (Gr.ruleE ⟨s,l⟩)) ∧ Below w.heap.size w w':=by
  have HL:=Lib.hid hl;clear hl;have HE:Hid (∀ a b:Bool,Gr.symOk s = a → a = true → 0 < n → n ≤ 8 → l.all Gr.itemOk = b → Gr.ruleE ⟨s,l⟩ = if b then 0 else 90):=Lib.hid (by
    intro a b h1 h2 h3 h4 h5;unfold Gr.ruleE;have:=HL.out;simp only [h1,h2];rw [if_neg (by simp),if_neg (by show ¬ (l.length = 0 ∨ 8 < l.length);omega),h5];cases b <;> simp)
  cases hs:Gr.symOk s
  · have E:Hid (Gr.ruleE ⟨s,l⟩ = 90):=Lib.hid (by unfold Gr.ruleE;rw [if_pos hs]);have HS:=Lib.hid hs;clear HE hs;go_enter Try.func44,Try.ntmps44;go_wp2_with fail;refine (symbolRight_any s _).mono ?_;rw [HS.out];rintro e w' ⟨rfl,rfl⟩;go_wp2;go_ret;exact ⟨by rw [E.out];rfl,(Below.refl _ _).alloc (Nat.le_refl _) _⟩
  · have HS:=Lib.hid hs;by_cases h0:n = 0
    · have E:Hid (Gr.ruleE ⟨s,l⟩ = 91):=Lib.hid (by unfold Gr.ruleE;rw [if_neg (by simp [hs]),if_pos (.inl (by show l.length = 0;rw [HL.out,h0]))]);have hz:((n:Int) == 0) = true:=by simp [h0]
      clear HE hs h0 hi;go_enter Try.func44,Try.ntmps44;go_wp2_with fail;refine (symbolRight_any s _).mono ?_;rw [HS.out];rintro e w' ⟨rfl,rfl⟩;go_wp2;go_ret;exact ⟨by rw [E.out];rfl,(Below.refl _ _).alloc (Nat.le_refl _) _⟩
    · have hz:((n:Int) == 0) = false:=by simp [h0]
      by_cases h8:n ≤ 8
      · have HE2:=Lib.hid (HE.out true _ hs rfl (by omega) h8 rfl);clear HE hs;go_enter Try.func44,Try.ntmps44;go_wp2_with fail;refine (symbolRight_any s _).mono ?_;rw [HS.out];rintro e w' ⟨rfl,rfl⟩;go_wp2_with fail;go_loopw [22] (fun i wr => ∃ k:Nat,k ≤ n ∧ i = .int .i64 k ∧ Hid ((l.take k).all Gr.itemOk = true) ∧ Below w.heap.size w wr) (fun i _ => n - (intOf i).toNat)
        case atStart => exact ⟨0,Nat.zero_le _,rfl,Lib.hid (by simp),(Below.refl _ _).alloc (Nat.le_refl _) _⟩
        case round =>
          obtain ⟨k,hk,rfl,hall,hbel⟩:=hrel;by_cases hlt:k < n
          · obtain ⟨b,o,rfl,hb,hc⟩:=(hi.below hbel) (by have:=HL.out;omega);obtain ⟨c1,c2⟩:=hc k (by have:=HL.out;omega);obtain ⟨x,hx⟩:∃ x,Hid (Gr.itm l k = x):=⟨_,Lib.hid rfl⟩;obtain ⟨xc,xs⟩:=x;rw [hx.out] at c1 c2;have hstep:(l.take (k + 1)).all Gr.itemOk = ((l.take k).all Gr.itemOk && Gr.itemOk ⟨xc,xs⟩):=by
              rw [← hx.out,Gr.take_succ l k (by have:=HL.out;omega),List.all_append];simp
            have HS2:=Lib.hid hstep;have hgs:=hbel.size;clear hc hstep;go_wp2_with fail;refine (symbolRight_any xs _).mono ?_;cases hso:Gr.symOk xs
            · have E:Hid (Gr.ruleE ⟨s,l⟩ = 90):=Lib.hid (by rw [HE2.out,Gr.all_false l (k + 1) (by rw [HS2.out];unfold Gr.itemOk;simp [hso])];rfl);clear hso;rintro e w' ⟨rfl,rfl⟩;go_wp2;go_ret;exact ⟨by rw [E.out];rfl,hbel.alloc hgs _⟩
            · by_cases hc0:xc = 0
              · subst hc0;have HN:Hid ((l.take (k + 1)).all Gr.itemOk = true):=Lib.hid (by rw [HS2.out,hall.out];unfold Gr.itemOk;simp [hso]);clear hso;rintro e w' ⟨rfl,rfl⟩;go_wp2;go_roundw
                case rel => exact ⟨k + 1,by omega,by go_num,HN,hbel.alloc hgs _⟩
                case measure => simp [intOf];omega
              · have hc1:(xc != 0) = true:=by simp [hc0]
                by_cases hs0:xs = 0
                · subst hs0;have HN:Hid ((l.take (k + 1)).all Gr.itemOk = true):=Lib.hid (by rw [HS2.out,hall.out];unfold Gr.itemOk;simp [hso]);clear hso hc0;rintro e w' ⟨rfl,rfl⟩;go_wp2;go_roundw
                  case rel => exact ⟨k + 1,by omega,by go_num,HN,hbel.alloc hgs _⟩
                  case measure => simp [intOf];omega
                · have hs1:(xs != 0) = true:=by simp [hs0]
                  have E:Hid (Gr.ruleE ⟨s,l⟩ = 90):=Lib.hid (by rw [HE2.out,Gr.all_false l (k + 1) (by rw [HS2.out];unfold Gr.itemOk;simp [hc0,hs0])];rfl);clear hso hc0 hs0;rintro e w' ⟨rfl,rfl⟩;go_wp2;go_ret;exact ⟨by rw [E.out];rfl,hbel.alloc hgs _⟩
          · have E:Hid (Gr.ruleE ⟨s,l⟩ = 0):=Lib.hid (by
              rw [HE2.out];have h:=hall.out;rw [List.take_of_length_le (by have:=HL.out;omega)] at h;rw [if_pos h])
            go_wp2;go_ret;exact ⟨by rw [E.out];rfl,hbel⟩
      · have E:Hid (Gr.ruleE ⟨s,l⟩ = 91):=Lib.hid (by unfold Gr.ruleE;rw [if_neg (by simp [hs]),if_pos (.inr (by show 8 < l.length;rw [HL.out];omega))]);clear HE hs hi;go_enter Try.func44,Try.ntmps44;go_wp2_with fail;refine (symbolRight_any s _).mono ?_;rw [HS.out];rintro e w' ⟨rfl,rfl⟩;go_wp2;go_ret;exact ⟨by rw [E.out];rfl,(Below.refl _ _).alloc (Nat.le_refl _) _⟩
end Go.Proofs.Ytdbfiflmeiidjaa
end
section
/- The keys of the three maps: endings and spans. -/
namespace Go.Proofs.Ytdbfiflmeiidjaa
open Go Go.RowKit
theorem Try.laidOut:laidOutB Try.prog = true:=by kernel_rfl
theorem rowEnd:(97:TypeId) < Try.prog.types.size:=of_decide_eq_true (by kernel_rfl)
theorem wideEnd:(match Try.prog.underlying 97 with | some (.array _ _) | some (.struct _) => true | _ => false) = true:=by rw [Try.underlying97]
set_option maxRecDepth 100000 in
theorem lawEnd:WideMaps.KeyLaw Try.prog 97:=deep_law_laid Try.laidOut (m:=3) (by omega) rowEnd (by kernel_rfl) wideEnd
theorem rowSpan:(106:TypeId) < Try.prog.types.size:=of_decide_eq_true (by kernel_rfl)
theorem wideSpan:(match Try.prog.underlying 106 with | some (.array _ _) | some (.struct _) => true | _ => false) = true:=by rw [Try.underlying106]
set_option maxRecDepth 100000 in
theorem lawSpan:WideMaps.KeyLaw Try.prog 106:=deep_law_laid Try.laidOut (m:=3) (by omega) rowSpan (by kernel_rfl) wideSpan
theorem cellsEnd:Try.prog.cellsOf 97 = 4:=by kernel_rfl
theorem cellsItem:Try.prog.cellsOf 24 = 2:=by kernel_rfl
theorem cellsSpan:Try.prog.cellsOf 106 = 3:=by kernel_rfl
theorem cellsInt:Try.prog.cellsOf 3 = 1:=by kernel_rfl
theorem cellsU16:Try.prog.cellsOf 22 = 1:=by kernel_rfl
theorem deepEnough:∃ d,Try.prog.types.size + 1 = d + 3:=⟨Try.prog.types.size - 2,by
  have:(3:Nat) ≤ Try.prog.types.size:=of_decide_eq_true (by kernel_rfl);omega⟩
theorem keyTypeEnd:Try.prog.keyType 97 = true:=by kernel_rfl
theorem keyTypeSpan:Try.prog.keyType 106 = true:=by kernel_rfl
theorem wf64 (n:Int) (h0:0 ≤ n) (h1:n ≤ 4611686018427387904):(Lit.int .i64 n).wf = true:=WalkArith.wf_i64 (by omega)
theorem wf16 (n:Int) (h0:0 ≤ n) (h1:n ≤ 65535):(Lit.int .u16 n).wf = true:=by
  have e0:IntKind.u16.min = 0:=rfl;have e1:IntKind.u16.max = 65535:=rfl;simp only [Lit.wf,e0,e1,Bool.and_eq_true,decide_eq_true_eq];omega
theorem key_span (a b c:Int) (ha:(Lit.int .i64 a).wf = true) (hb:(Lit.int .i64 b).wf = true) (hc:(Lit.int .i64 c).wf = true) :
    ∃ l,keyOf Try.prog 106 (.agg #[.int .i64 a,.int .i64 b,.int .i64 c]) = some l:=by
  obtain ⟨d,hd⟩:=deepEnough;unfold keyOf;rw [Try.underlying106,hd];simp [keyTypeSpan,Value.formed,Try.underlying106,cellsSpan,Program.keyLits,Try.underlying3,cellsInt,ha,hb,hc,Value.cells]
theorem key_end (a b c e:Int) (ha:(Lit.int .u16 a).wf = true) (hb:(Lit.int .i64 b).wf = true) (hc:(Lit.int .i64 c).wf = true) (he:(Lit.int .i64 e).wf = true) :
    ∃ l,keyOf Try.prog 97 (.agg #[.int .u16 a,.int .i64 b,.int .i64 c,.int .i64 e]) = some l:=by
  obtain ⟨d,hd⟩:=deepEnough;unfold keyOf;rw [Try.underlying97,hd];simp [keyTypeEnd,Value.formed,Try.underlying97,cellsEnd,Program.keyLits,Try.underlying24,cellsItem,Try.underlying3,Try.underlying22,cellsInt,cellsU16,ha,hb,hc,he,Value.cells];rw [if_pos (by intro i hi;match i,hi with | 0,_ => simp | 1,_ => simp)];exact ⟨_,rfl⟩
end Go.Proofs.Ytdbfiflmeiidjaa
end
