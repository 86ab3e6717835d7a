/- Joined: NatV, Num, NatA. -/
import Derived.Test.YtdbfiflmeiidjaaSa01
import Derived.Test.YtdbfiflmeiidjaaSa02
import Derived.Test.YtdbfiflmeiidjaaProg
import Derived.Laws.AppendOwnNone
import Derived.Maps.AppendAt
import Derived.BigQuiet
import Derived.Outline
section
/- Plain facts on lists of limbs and the numbers that they stand for. No program in sight. -/
namespace Nt
def V:List Int → Int
  | [] => 0
  | x :: l => x + 4294967296 * V l
def P:Nat → Int
  | 0 => 1
  | k + 1 => 4294967296 * P k
def Ok (l:List Int):Prop:=∀ x ∈ l,0 ≤ x ∧ x ≤ 4294967295
theorem P_pos (k:Nat):0 < P k:=by
  induction k with
  | zero => simp [P]
  | succ k ih => simp only [P];omega
theorem P_succ (k:Nat):P (k + 1) = 4294967296 * P k:=rfl
theorem P_add (a b:Nat):P (a + b) = P a * P b:=by
  induction a with
  | zero => simp [P]
  | succ a ih => rw [show a + 1 + b = (a + b) + 1 from by omega,P_succ,P_succ,ih,Int.mul_assoc]
theorem P_mono {a b:Nat} (h:a ≤ b):P a ≤ P b:=by
  induction h with
  | refl => exact Int.le_refl _
  | step _ ih => rw [P_succ];have:=P_pos a;omega
theorem P_lt_of {a b:Nat} (h:P a < P b):a < b:=by
  rcases Nat.lt_or_ge a b with h1 | h1
  · exact h1
  · have:=P_mono h1;omega
theorem Ok.nil:Ok []:=fun x h => by simp at h
theorem Ok.cons {x:Int} {l:List Int} (h0:0 ≤ x) (h1:x ≤ 4294967295) (h:Ok l):Ok (x :: l):=fun y hy => by
  rcases List.mem_cons.1 hy with rfl | hy
  · exact ⟨h0,h1⟩
  · exact h y hy
theorem Ok.head {x:Int} {l:List Int} (h:Ok (x :: l)):0 ≤ x ∧ x ≤ 4294967295:=h x (by simp)
theorem Ok.tail {x:Int} {l:List Int} (h:Ok (x :: l)):Ok l:=fun y hy => h y (by simp [hy])
theorem Ok.append {a b:List Int} (ha:Ok a) (hb:Ok b):Ok (a ++ b):=fun y hy => by
  rcases List.mem_append.1 hy with hy | hy
  · exact ha y hy
  · exact hb y hy
theorem Ok.one {x:Int} (h0:0 ≤ x) (h1:x ≤ 4294967295):Ok [x]:=Ok.cons h0 h1 Ok.nil
theorem Ok.take {l:List Int} (h:Ok l) (k:Nat):Ok (l.take k):=fun y hy => h y (List.mem_of_mem_take hy)
theorem Ok.drop {l:List Int} (h:Ok l) (k:Nat):Ok (l.drop k):=fun y hy => h y (List.mem_of_mem_drop hy)
theorem Ok.nth {l:List Int} (h:Ok l) {k:Nat} (hk:k < l.length):0 ≤ Ls.nth l k ∧ Ls.nth l k ≤ 4294967295:=h _ (Ls.nth_mem l k hk)
theorem Ok.nth_any {l:List Int} (h:Ok l) (k:Nat):0 ≤ Ls.nth l k ∧ Ls.nth l k ≤ 4294967295:=by
  by_cases hk:k < l.length
  · exact h.nth hk
  · have e:Ls.nth l k = 0:=by
      unfold Ls.nth;rw [List.getD,List.getElem?_eq_none (by omega)];rfl
    omega
theorem Ok.zeros (n:Nat):Ok (Ls.zeros n):=fun y hy => by
  have:y = 0:=(List.mem_replicate.1 hy).2;omega
theorem Ok.set {l:List Int} (h:Ok l) (k:Nat) {x:Int} (h0:0 ≤ x) (h1:x ≤ 4294967295):Ok (l.set k x):=fun y hy => by
  rcases List.mem_or_eq_of_mem_set hy with hy | rfl
  · exact h y hy
  · exact ⟨h0,h1⟩
theorem V_append (a b:List Int):V (a ++ b) = V a + P a.length * V b:=by
  induction a with
  | nil => simp [V,P]
  | cons x a ih =>
    simp only [List.cons_append,V,ih,List.length_cons,P_succ,Int.mul_add,Int.mul_assoc];omega
theorem V_snoc (a:List Int) (x:Int):V (a ++ [x]) = V a + P a.length * x:=by rw [V_append];simp [V]
theorem V_nonneg {l:List Int} (h:Ok l):0 ≤ V l:=by
  induction l with
  | nil => simp [V]
  | cons x l ih => have:=ih h.tail;have:=h.head;simp only [V];omega
theorem V_lt {l:List Int} (h:Ok l):V l < P l.length:=by
  induction l with
  | nil => simp [V,P]
  | cons x l ih => have:=ih h.tail;have:=h.head;simp only [V,List.length_cons,P_succ];omega
theorem V_zeros (n:Nat):V (Ls.zeros n) = 0:=by
  induction n with
  | zero => rfl
  | succ n ih =>
    have e:Ls.zeros (n + 1) = 0 :: Ls.zeros n:=rfl;rw [e,V,ih];rfl
theorem nth_cons_succ (x:Int) (l:List Int) (k:Nat):Ls.nth (x :: l) (k + 1) = Ls.nth l k:=rfl
theorem V_set (l:List Int) (k:Nat) (x:Int) (h:k < l.length):V (l.set k x) = V l + P k * (x - Ls.nth l k):=by
  induction l generalizing k with
  | nil => simp at h
  | cons y l ih =>
    cases k with
    | zero => simp only [List.set_cons_zero,V,P,Int.one_mul,Ls.nth,List.getD_cons_zero];omega
    | succ k =>
      simp only [List.set_cons_succ,V,nth_cons_succ,P_succ];rw [ih k (by simpa using h),Int.mul_add,Int.mul_assoc];omega
theorem V_take (l:List Int) (k:Nat) (h:k < l.length):V (l.take (k + 1)) = V (l.take k) + P k * Ls.nth l k:=by
  rw [Ls.take_nth l k h,V_snoc,List.length_take,Nat.min_eq_left (by omega)]
theorem V_drop (l:List Int) (k:Nat) (h:k < l.length):V (l.drop k) = Ls.nth l k + 4294967296 * V (l.drop (k + 1)):=by
  rw [List.drop_eq_getElem_cons h,V,Ls.nth_get l k h]
theorem V_split (l:List Int) (k:Nat) (h:k ≤ l.length):V l = V (l.take k) + P k * V (l.drop k):=by
  have e:=V_append (l.take k) (l.drop k);rw [List.take_append_drop,List.length_take,Nat.min_eq_left h] at e;exact e
theorem V_take_all (l:List Int) (k:Nat) (h:l.length ≤ k):V (l.take k) = V l:=by rw [List.take_of_length_le h]
def R (l:List Int):Prop:=Ok l ∧ (l = [] ∨ Ls.nth l (l.length - 1) ≠ 0)
theorem R.nil:R []:=⟨Ok.nil,.inl rfl⟩
theorem R.tail {x:Int} {l:List Int} (h:R (x :: l)):R l:=by
  refine ⟨h.1.tail,?_⟩;cases l with
  | nil => exact .inl rfl
  | cons y l =>
    right;rcases h.2 with h2 | h2
    · cases h2
    · exact h2
theorem R_low {l:List Int} (h:R l) (hn:l ≠ []):P (l.length - 1) ≤ V l:=by
  induction l with
  | nil => exact absurd rfl hn
  | cons x l ih =>
    have hx:=h.1.head;cases l with
    | nil =>
      rcases h.2 with h2 | h2
      · cases h2
      · have e:Ls.nth [x] ([x].length - 1) = x:=rfl;rw [e] at h2;simp only [List.length_singleton,Nat.sub_self,P,V,Int.mul_zero,Int.add_zero];omega
    | cons y l =>
      have:=ih h.tail (by simp);have e:(x :: y :: l).length - 1 = (y :: l).length - 1 + 1:=by simp
      rw [e,P_succ,V];omega
theorem R_pos {l:List Int} (h:R l) (hn:l ≠ []):0 < V l:=by
  have:=R_low h hn;have:=P_pos (l.length - 1);omega
def limbsF:Nat → Nat → List Int
  | 0,_ => []
  | f + 1,n => if n = 0 then [] else ((n % 4294967296:Nat):Int) :: limbsF f (n / 4294967296)
def limbs (n:Nat):List Int:=limbsF n n
theorem limbsF_of {l:List Int} (h:R l):∀ f n:Nat,V l = (n:Int) → n ≤ f → limbsF f n = l:=by
  induction l with
  | nil =>
    intro f n hv _;have:n = 0:=by simp only [V] at hv;omega
    subst this;cases f <;> simp [limbsF]
  | cons x l ih =>
    intro f n hv hf;have hp:=R_pos h (by simp);have hx:=h.1.head;have ht:=V_nonneg h.1.tail;simp only [V] at hv hp;cases f with
    | zero => omega
    | succ f =>
      have hn:n ≠ 0:=by omega
      simp only [limbsF,if_neg hn];congr 1
      · omega
      · exact ih h.tail f (n / 4294967296) (by omega) (by omega)
theorem limbs_of {l:List Int} {n:Nat} (h:R l) (hv:V l = (n:Int)):limbs n = l:=limbsF_of h n n hv (Nat.le_refl _)
theorem limbsF_R:∀ f n:Nat,n ≤ f → R (limbsF f n) ∧ V (limbsF f n) = (n:Int):=by
  intro f
  induction f with
  | zero => intro n h;have:n = 0:=by omega
            subst this;exact ⟨R.nil,rfl⟩
  | succ f ih =>
    intro n h;by_cases hn:n = 0
    · subst hn;simp only [limbsF,if_pos];exact ⟨R.nil,rfl⟩
    · have ⟨h1,h2⟩:=ih (n / 4294967296) (by omega);simp only [limbsF,if_neg hn];refine ⟨⟨Ok.cons (by omega) (by omega) h1.1,.inr ?_⟩,?_⟩
      · cases hl:limbsF f (n / 4294967296) with
        | nil =>
          rw [hl] at h2;simp only [V] at h2;show ((n % 4294967296:Nat):Int) ≠ 0;omega
        | cons y l =>
          rw [hl] at h1;rcases h1.2 with h3 | h3
          · cases h3
          · exact h3
      · simp only [V,h2];omega
theorem limbs_R (n:Nat):R (limbs n):=(limbsF_R n n (Nat.le_refl _)).1
theorem limbs_Ok (n:Nat):Ok (limbs n):=(limbs_R n).1
theorem V_limbs (n:Nat):V (limbs n) = (n:Int):=(limbsF_R n n (Nat.le_refl _)).2
theorem limbs_inj {m n:Nat} (h:limbs m = limbs n):m = n:=by
  have a:=V_limbs m;rw [h,V_limbs] at a;omega
theorem limbs_zero:limbs 0 = []:=rfl
theorem limbs_ne {n:Nat} (h:n ≠ 0):limbs n ≠ []:=fun e => by
  have:=V_limbs n;rw [e] at this;simp only [V] at this;omega
theorem len_zero_iff (n:Nat):(limbs n).length = 0 ↔ n = 0:=by
  constructor
  · intro h;have e:limbs n = []:=List.eq_nil_of_length_eq_zero h;have:=V_limbs n;rw [e] at this;simp only [V] at this;omega
  · rintro rfl;rfl
theorem limbs_lt (n:Nat):(n:Int) < P (limbs n).length:=by
  have:=V_lt (limbs_Ok n);rwa [V_limbs] at this
theorem limbs_low {n:Nat} (h:n ≠ 0):P ((limbs n).length - 1) ≤ (n:Int):=by
  have:=R_low (limbs_R n) (limbs_ne h);rwa [V_limbs] at this
theorem len_le_iff (n k:Nat):(limbs n).length ≤ k ↔ (n:Int) < P k:=by
  constructor
  · intro h;have a:=limbs_lt n;have b:=P_mono h;omega
  · intro h;by_cases hn:n = 0
    · subst hn;simp [limbs_zero]
    · have a:=limbs_low hn;have:(limbs n).length - 1 < k:=P_lt_of (by omega);omega
theorem len_mono {m n:Nat} (h:m ≤ n):(limbs m).length ≤ (limbs n).length:=by
  rw [len_le_iff];have:=limbs_lt n;omega
theorem limbs_take {l:List Int} {n k:Nat} (ho:Ok l) (hv:V l = (n:Int)) (hk:k ≤ l.length) (he:V (l.take k) = V l) (hl:k = 0 ∨ Ls.nth l (k - 1) ≠ 0):limbs n = l.take k:=by
  refine limbs_of ⟨ho.take k,?_⟩ (he.trans hv);rcases hl with rfl | hl
  · exact .inl rfl
  · by_cases h0:k = 0
    · subst h0;exact .inl rfl
    · right;rw [List.length_take,Nat.min_eq_left hk,Ls.nth_take l k (k - 1) (by omega)];exact hl
theorem V_take_pred {l:List Int} {k:Nat} (hk:k < l.length) (he:V (l.take (k + 1)) = V l) (h0:Ls.nth l k = 0):V (l.take k) = V l:=by
  rw [V_take l k hk,h0,Int.mul_zero,Int.add_zero] at he;exact he
theorem V_add_step {s a b:List Int} {i:Nat} {c t:Int} (hs:s.length = i) (h:V s + P i * c = V a + V b) {x y:Int} (ht:t = x + y + c) :
    V (s ++ [t % 4294967296]) + P (i + 1) * (t / 4294967296) = (V a + P i * x) + (V b + P i * y):=by
  rw [V_snoc,hs,P_succ];have e:P i * t = P i * (t % 4294967296) + 4294967296 * P i * (t / 4294967296):=by
    rw [Int.mul_comm 4294967296 (P i),Int.mul_assoc,← Int.mul_add];congr 1;omega
  subst ht;rw [Int.mul_add,Int.mul_add] at e;omega
theorem V_take_nth (l:List Int) (k:Nat):V (l.take (k + 1)) = V (l.take k) + P k * Ls.nth l k:=by
  by_cases h:k < l.length
  · exact V_take l k h
  · have e:Ls.nth l k = 0:=by
      unfold Ls.nth;rw [List.getD,List.getElem?_eq_none (by omega)];rfl
    rw [e,List.take_of_length_le (by omega),List.take_of_length_le (by omega)];simp
theorem nth_out {l:List Int} {k:Nat} (h:l.length ≤ k):Ls.nth l k = 0:=by
  unfold Ls.nth;rw [List.getD,List.getElem?_eq_none h];rfl
theorem fill_set {s:List Int} {N k:Nat} (v:Int) (hs:s.length = k) (hk:k < N):(s ++ Ls.zeros (N - k)).set k v = (s ++ [v]) ++ Ls.zeros (N - (k + 1)):=by
  rw [List.set_append_right _ _ (by omega),hs,Nat.sub_self,List.append_assoc];congr 1;rw [show N - k = (N - (k + 1)) + 1 from by omega];rfl
theorem fill_len {s:List Int} {N k:Nat} (hs:s.length = k) (hk:k ≤ N):(s ++ Ls.zeros (N - k)).length = N:=by
  rw [List.length_append,hs,Ls.zeros_len];omega
theorem fill_all {s:List Int} {N:Nat}:s ++ Ls.zeros (N - N) = s:=by simp [Ls.zeros]
theorem add_end {s a b:List Int} {n:Nat} {c:Int} (_hs:s.length = n + 1) (ho:Ok s) (ha:Ok a) (hb:Ok b) (hla:a.length ≤ n) (hlb:b.length ≤ n) (hc:0 ≤ c) (h:V s + P (n + 1) * c = V (a.take (n + 1)) + V (b.take (n + 1))):V s = V a + V b:=by
  rw [V_take_all a _ (by omega),V_take_all b _ (by omega)] at h;have h1:=V_lt ha;have h2:=V_lt hb;have h3:=P_mono hla;have h4:=P_mono hlb;have h5:=V_nonneg ho;have hp:=P_pos n;rw [P_succ,Int.mul_assoc] at h;by_cases e:c = 0
  · subst e;rw [Int.mul_zero] at h;omega
  · have:P n * 1 ≤ P n * c:=Int.mul_le_mul_of_nonneg_left (by omega) (by omega);omega
theorem V_mul_step {p:List Int} {k:Nat} {c t x y v:Int} (hk:k < p.length) (h:V p + P k * c = v) (ht:t = x * y + Ls.nth p k + c) :
    V (p.set k (t % 4294967296)) + P (k + 1) * (t / 4294967296) = v + P k * (x * y):=by
  rw [V_set p k _ hk,P_succ];have e:P k * t = P k * (t % 4294967296) + 4294967296 * P k * (t / 4294967296):=by
    rw [Int.mul_comm 4294967296 (P k),Int.mul_assoc,← Int.mul_add];congr 1;omega
  rw [ht,Int.mul_add,Int.mul_add,← ht] at e;rw [Int.mul_sub];omega
theorem nth_set_ne {l:List Int} {k j:Nat} (x:Int) (h:j ≠ k):Ls.nth (l.set k x) j = Ls.nth l j:=by
  unfold Ls.nth;rw [List.getD,List.getD,List.getElem?_set_ne (fun e => h e.symm)]
theorem nth_set_eq {l:List Int} {k:Nat} (x:Int) (h:k < l.length):Ls.nth (l.set k x) k = x:=by
  unfold Ls.nth;rw [List.getD,List.getElem?_set_self h];rfl
theorem mul_row {p p' a:List Int} {k m:Nat} {c x y:Int} (hk:k + m < p'.length) (hp:V p = V (a.take k) * y) (h:V p' + P (k + m) * c = V p + P k * (x * y)) (h0:Ls.nth p' (k + m) = 0) (hx:Ls.nth a k = x) :
    V (p'.set (k + m) c) = V (a.take (k + 1)) * y:=by
  rw [V_set _ _ _ hk,h0,V_take_nth,hx,Int.add_mul,← hp,Int.mul_assoc];rw [Int.sub_zero];exact h
theorem mul_low {a b:List Int} (ha:R a) (hb:R b) (hna:a ≠ []) (hnb:b ≠ []):P (a.length + b.length - 2) ≤ V a * V b:=by
  have h1:=R_low ha hna;have h2:=R_low hb hnb;have l1:0 < a.length:=List.length_pos_iff.2 hna;have l2:0 < b.length:=List.length_pos_iff.2 hnb;rw [show a.length + b.length - 2 = (a.length - 1) + (b.length - 1) from by omega,P_add];exact Int.mul_le_mul h1 h2 (Int.le_of_lt (P_pos _)) (V_nonneg ha.1)
theorem nth_zeros (n j:Nat):Ls.nth (Ls.zeros n) j = 0:=by
  unfold Ls.nth Ls.zeros;rw [List.getD,List.getElem?_replicate];split <;> rfl
theorem mul_inner {q b:List Int} {k j:Nat} {c t x y v:Int} (hk:k + j < q.length) (h:V q + P (k + j) * c = v + P k * (x * V (b.take j))) (ht:t = x * y + Ls.nth q (k + j) + c) (hy:Ls.nth b j = y) :
    V (q.set (k + j) (t % 4294967296)) + P (k + (j + 1)) * (t / 4294967296) = v + P k * (x * V (b.take (j + 1))):=by
  rw [show k + (j + 1) = (k + j) + 1 from by omega,V_mul_step hk h ht,V_take_nth,hy,P_add,Int.mul_add,Int.mul_add,Int.mul_assoc,Int.mul_left_comm x (P j) y,Int.add_assoc]
theorem mul_bd {x y:Int} (h0:0 ≤ x) (h1:x ≤ 4294967295) (g0:0 ≤ y) (g1:y ≤ 4294967295):0 ≤ x * y ∧ x * y ≤ 18446744065119617025 :=
  ⟨Int.mul_nonneg h0 g0,Int.le_trans (Int.mul_le_mul h1 g1 g0 (by omega)) (by decide)⟩
end Nt
end
section
/- Slices of limbs in memory, read by their value, over any program. -/
namespace Kt
open Go Go.RowKit
def Row (w:World) (lo:Nat) (k:IntKind) (v:Value) (zs:List Int):Prop :=
  ∃ A c,v = .slice A zs.length c ∧ zs.length ≤ c ∧ (A = none → c = 0) ∧ (0 < zs.length → ∃ b,A = some ⟨b,0,none⟩ ∧ lo ≤ b ∧ b < w.heap.size ∧
    (∀ j,j < zs.length → w.cell? ⟨b,j,none⟩ = some (.int k (Ls.nth zs j))) ∧ ∀ j,w.frozen? ⟨b,j,none⟩ = false)
section
variable {w w':World} {lo lo':Nat} {k:IntKind} {v:Value} {zs:List Int}
theorem Row.nil (w:World) (lo:Nat) (k:IntKind):Row w lo k (.slice none 0 0) []:=⟨none,0,rfl,Nat.le_refl _,fun _ => rfl,fun h => absurd h (by simp)⟩
theorem Row.empty (w:World) (lo:Nat) (k:IntKind) (a:Addr) (c:Nat):Row w lo k (.slice (some a) 0 c) []:=⟨_,c,rfl,Nat.zero_le _,fun h => (by cases h),fun h => absurd h (by simp)⟩
theorem Row.below {B:Nat} (h:Row w lo k v zs) (hb:Below B w w') (hB:w.heap.size ≤ B):Row w' lo k v zs:=by
  obtain ⟨A,c,e,hc,h0,hn⟩:=h;refine ⟨A,c,e,hc,h0,fun hp => ?_⟩;obtain ⟨b,ha,h1,h2,h3,h4⟩:=hn hp;exact ⟨b,ha,h1,Nat.lt_of_lt_of_le h2 hb.size,fun j hj => (hb.cell (p:=⟨b,j,none⟩) (by show b < B;omega)).trans (h3 j hj),fun j => (hb.frozen (p:=⟨b,j,none⟩) (by show b < B;omega)).trans (h4 j)⟩
theorem Row.on (h:Row w lo k v zs) (hb:Below w.heap.size w w'):Row w' lo k v zs:=h.below hb (Nat.le_refl _)
theorem Row.drewN (h:Row w lo k v zs) (n:Nat):Row (w.drewN n) lo k v zs:=h
theorem Row.alloc (h:Row w lo k v zs) (o:Obj):Row (w.alloc o) lo k v zs:=h.on ((Below.refl _ _).alloc (Nat.le_refl _) _)
theorem Row.less (h:Row w lo k v zs) (hl:lo' ≤ lo):Row w lo' k v zs:=by
  obtain ⟨A,c,e,hc,h0,hn⟩:=h;refine ⟨A,c,e,hc,h0,fun hp => ?_⟩;obtain ⟨b,ha,h1,h2⟩:=hn hp;exact ⟨b,ha,by omega,h2⟩
theorem Row.of_own {base:Nat} {T:TypeId} (h:Own w base T k v zs):Row w base k v zs:=by
  by_cases hn:0 < zs.length
  · obtain ⟨g,c,e,hc,hb,hg,hcell,hfr⟩:=h.block hn;exact ⟨_,c,e,hc,fun h => (by cases h),fun _ => ⟨g,rfl,hb,hg,hcell,hfr⟩⟩
  · obtain ⟨_,h2⟩:=h;rcases h2 with ⟨hv,h0⟩ | ⟨g,cap,cur,hv,_,_,hnc,_,_,_⟩
    · exact ⟨none,0,by rw [hv,h0],by omega,fun _ => rfl,fun h => absurd h hn⟩
    · exact ⟨_,cap,hv,hnc,fun h => (by cases h),fun h => absurd h hn⟩
theorem Row.of_blk {g:Nat} {T:TypeId} {ys:List Int} (h:IBlk w g T k ys) (hlo:lo ≤ g) (n c:Nat) (hn:n = zs.length) (hz:zs = ys.take n) (hc:n ≤ c) (hl:n ≤ ys.length):Row w lo k (.slice (some ⟨g,0,none⟩) n c) zs:=by
  subst hn;refine ⟨_,c,rfl,hc,fun h => (by cases h),fun _ => ⟨g,rfl,hlo,h.lt,fun j hj => ?_,fun j => h.frozen j⟩⟩;rw [h.cell j (by omega),hz,Ls.nth_take _ _ _ (by omega)]
theorem Row.ints (h:Row w lo k v zs):∃ A c,v = .slice A zs.length c ∧ zs.length ≤ c ∧ (A = none → c = 0) ∧ Ints w w.heap.size k A zs:=by
  obtain ⟨A,c,e,hc,h0,hn⟩:=h;refine ⟨A,c,e,hc,h0,fun hp => ?_⟩;obtain ⟨b,ha,_,h2,h3,_⟩:=hn hp;exact ⟨b,0,ha,h2,fun j hj => by rw [Nat.zero_add];exact h3 j hj⟩
end
def RowAt (w:World) (b:Nat) (k:IntKind) (zs:List Int):Prop :=
  b < w.heap.size ∧ (∀ j,j < zs.length → w.cell? ⟨b,j,none⟩ = some (.int k (Ls.nth zs j))) ∧ ∀ j,w.frozen? ⟨b,j,none⟩ = false
section
variable {w w':World} {lo b:Nat} {k:IntKind} {zs:List Int}
theorem RowAt.cell (h:RowAt w b k zs) (j:Nat) (hj:j < zs.length):w.cell? ⟨b,j,none⟩ = some (.int k (Ls.nth zs j)):=h.2.1 j hj
theorem RowAt.frozen (h:RowAt w b k zs) (j:Nat):w.frozen? ⟨b,j,none⟩ = false:=h.2.2 j
theorem RowAt.ints (h:RowAt w b k zs):Ints w w.heap.size k (some ⟨b,0,none⟩) zs:=fun _ => ⟨b,0,rfl,h.1,fun j hj => by rw [Nat.zero_add];exact h.cell j hj⟩
theorem RowAt.below {B:Nat} (h:RowAt w b k zs) (hb:Below B w w') (hB:b < B):RowAt w' b k zs :=
  ⟨Nat.lt_of_lt_of_le h.1 hb.size,fun j hj => (hb.cell (p:=⟨b,j,none⟩) hB).trans (h.cell j hj),fun j => (hb.frozen (p:=⟨b,j,none⟩) hB).trans (h.frozen j)⟩
theorem RowAt.on (h:RowAt w b k zs) (hb:Below w.heap.size w w'):RowAt w' b k zs:=h.below hb h.1
theorem RowAt.drewN (h:RowAt w b k zs) (n:Nat):RowAt (w.drewN n) b k zs:=h
theorem RowAt.alloc (h:RowAt w b k zs) (o:Obj):RowAt (w.alloc o) b k zs:=h.on ((Below.refl _ _).alloc (Nat.le_refl _) _)
theorem RowAt.far (h:RowAt w b k zs) {p:Addr} (hp:b ≠ p.block) (u:Value):RowAt (w.setCell p u) b k zs :=
  ⟨by simpa using h.1,fun j hj => by rw [World.cell?_setCell_other _ _ _ _ (fun e => hp (by rw [e]))];exact h.cell j hj,fun j => by rw [World.frozen?_setCell];exact h.frozen j⟩
theorem RowAt.set (h:RowAt w b k zs) (j:Nat) (hj:j < zs.length) (x:Int):RowAt (w.setCell ⟨b,j,none⟩ (.int k x)) b k (zs.set j x):=by
  refine ⟨by simpa using h.1,fun i hi => ?_,fun i => by rw [World.frozen?_setCell];exact h.frozen i⟩;rw [List.length_set] at hi;by_cases e:i = j
  · subst e;rw [World.cell?_setCell_same _ _ _ (h.cell i hj),Nt.nth_set_eq _ hj]
  · rw [World.cell?_setCell_other _ _ _ _ (fun e2 => e (by injection e2 with _ e2;exact e2.symm)),Nt.nth_set_ne _ e];exact h.cell i hi
theorem RowAt.take (h:RowAt w b k zs) (n:Nat):RowAt w b k (zs.take n) :=
  ⟨h.1,fun j hj => by rw [List.length_take] at hj;rw [h.cell j (by omega),Ls.nth_take _ _ _ (by omega)],h.2.2⟩
theorem RowAt.row (h:RowAt w b k zs) (hlo:lo ≤ b) (n c:Nat) (hn:zs.length = n) (hc:n ≤ c):Row w lo k (.slice (some ⟨b,0,none⟩) n c) zs:=by
  subst hn;exact ⟨_,c,rfl,hc,fun e => (by cases e),fun _ => ⟨b,rfl,hlo,h.1,h.2.1,h.2.2⟩⟩
theorem Row.at (v:Value) (h:Row w lo k v zs) (hn:0 < zs.length):∃ b c,v = .slice (some ⟨b,0,none⟩) zs.length c ∧ zs.length ≤ c ∧ lo ≤ b ∧ RowAt w b k zs:=by
  obtain ⟨A,c,e,hc,_,hr⟩:=h;obtain ⟨b,ha,h1,h2,h3,h4⟩:=hr hn;exact ⟨b,c,by rw [e,ha],hc,h1,h2,h3,h4⟩
end
def Num (w:World) (lo:Nat) (v:Value) (n:Nat):Prop:=Row w lo .u32 v (Nt.limbs n)
section
variable {w w':World} {lo lo':Nat} {v:Value} {n:Nat}
theorem Num.zero (w:World) (lo:Nat):Num w lo (.slice none 0 0) 0:=Row.nil w lo .u32
theorem Num.on (h:Num w lo v n) (hb:Below w.heap.size w w'):Num w' lo v n:=Row.on h hb
theorem Num.drewN (h:Num w lo v n) (k:Nat):Num (w.drewN k) lo v n:=h
theorem Num.alloc (h:Num w lo v n) (o:Obj):Num (w.alloc o) lo v n:=Row.alloc h o
theorem Num.less (h:Num w lo v n) (hl:lo' ≤ lo):Num w lo' v n:=Row.less h hl
theorem Num.ints (h:Num w lo v n):∃ A c,v = .slice A (Nt.limbs n).length c ∧ (Nt.limbs n).length ≤ c ∧ (A = none → c = 0) ∧ Ints w w.heap.size .u32 A (Nt.limbs n):=Row.ints h
theorem Num.take {g:Nat} {T:TypeId} {ys:List Int} {k c:Nat} (h:IBlk w g T .u32 ys) (hlo:lo ≤ g) (ho:Nt.Ok ys) (hv:Nt.V ys = (n:Int)) (hk:k ≤ ys.length) (he:Nt.V (ys.take k) = Nt.V ys) (hl:k = 0 ∨ Ls.nth ys (k - 1) ≠ 0) (hc:k ≤ c) :
    Num w lo (.slice (some ⟨g,0,none⟩) k c) n:=by
  have e:=Nt.limbs_take ho hv hk he hl;have hlen:(Nt.limbs n).length = k:=by rw [e,List.length_take];omega
  exact Row.of_blk h hlo k c hlen.symm e hc hk
end
end Kt
end
section
/- What Right, trimmed, copied, compared and Cmp of package nat return: their walks. -/
namespace Go.Proofs.Ytdbfiflmeiidjaa
open Go Go.RowKit
theorem ret_bi {a b:Bool} (h:a = b):Ending.returned (.bool a) = .returned (.bool b):=by rw [h]
def rightB (l:List Int):Bool:=decide (l.length ≤ 1024) && (decide (l.length = 0) || Ls.nth l (l.length - 1) != 0)
theorem right_any (A:Option Addr) (n cp:Nat) (l:List Int) (w:World) (hl:l.length = n) (hz:Kt.Ints w w.heap.size .u32 A l) (hn:n ≤ 4611686018427387904) :
    Calls Try.prog 22 #[.slice A n cp] w fun e w' => e = .returned (.bool (rightB l)) ∧ w = w':=by
  by_cases h1:n ≤ 1024
  · by_cases h0:0 < n
    · obtain ⟨b,off,rfl,hb,hc⟩:=hz (by omega);have hcell:=hc (n - 1) (by omega);clear hc;obtain ⟨x,hx⟩:∃ x,Hid (Ls.nth l (n - 1) = x):=⟨_,Lib.hid rfl⟩;rw [hx.out] at hcell;have E:Hid (rightB l = (x != 0)):=Lib.hid (by
        have e0:decide (n ≤ 1024) = true:=by simpa using h1
        have e1:decide (n = 0) = false:=by simp;omega
        rw [rightB,hl,hx.out,e0,e1];rfl)
      clear hl;have hb0:((n:Int) == 0) = false:=by simp;omega
      cases hxb:(x != 0)
      · rw [hxb] at E;go_enter Try.func22,Try.ntmps22;go_wp2;go_ret;exact ⟨ret_bi E.out.symm,rfl⟩
      · rw [hxb] at E;go_enter Try.func22,Try.ntmps22;go_wp2;go_ret;exact ⟨ret_bi E.out.symm,rfl⟩
    · obtain rfl:n = 0:=by omega
      have E:Hid (rightB l = true):=Lib.hid (by rw [rightB,hl];rfl);clear hl;go_enter Try.func22,Try.ntmps22;go_wp2;go_ret;exact ⟨ret_bi E.out.symm,rfl⟩
  · have E:Hid (rightB l = false):=Lib.hid (by
      have e0:decide (n ≤ 1024) = false:=by simp;omega
      rw [rightB,hl,e0];rfl)
    clear hl;go_enter Try.func22,Try.ntmps22;go_wp2;go_ret;exact ⟨ret_bi E.out.symm,rfl⟩
theorem trimmed_any (A:Option Addr) (n cp:Nat) (l:List Int) (w:World) (hl:l.length = n) (hz:Kt.Ints w w.heap.size .u32 A l) (hcp:n ≤ cp) (hn:n ≤ 4611686018427387904) :
    Calls Try.prog 24 #[.slice A n cp] w fun e w' => ∃ k,e = .returned (.slice A k cp) ∧ k ≤ n ∧ Nt.V (l.take k) = Nt.V l ∧ (k = 0 ∨ Ls.nth l (k - 1) ≠ 0) ∧ w = w':=by
  have HL:=Lib.hid hl;clear hl;go_enter Try.func24,Try.ntmps24;go_wp2
  go_loop [0] (fun v => ∃ k:Nat,k ≤ n ∧ v = .slice A k cp ∧ Hid (Nt.V (l.take k) = Nt.V l)) (fun v => match v with | .slice _ k _ => k | _ => 0)
  case atStart => exact ⟨n,Nat.le_refl _,rfl,Lib.hid (by rw [Nt.V_take_all _ _ (by rw [HL.out];exact Nat.le_refl _)])⟩
  case round =>
    obtain ⟨k,hk,rfl,hv⟩:=hrel;by_cases h0:0 < k
    · obtain ⟨b,off,rfl,hb,hc⟩:=hz (by have:=HL.out;omega);have hcell:=hc (k - 1) (by have:=HL.out;omega);clear hc;obtain ⟨x,hx⟩:∃ x,Hid (Ls.nth l (k - 1) = x):=⟨_,Lib.hid rfl⟩;rw [hx.out] at hcell;cases hxb:(x == 0)
      · have HX:Hid (Ls.nth l (k - 1) ≠ 0):=Lib.hid (by rw [hx.out];simpa using hxb);go_wp2;go_ret;exact ⟨k,rfl,hk,hv.out,.inr HX.out,rfl⟩
      · have HX:Hid (Nt.V (l.take (k - 1)) = Nt.V l):=Lib.hid (Nt.V_take_pred (k:=k - 1) (by have:=HL.out;omega) (by rw [show k - 1 + 1 = k from by omega];exact hv.out) (by rw [hx.out];simpa using hxb));go_wp2
        go_round
        case rel => exact ⟨k - 1,by omega,by first | rfl | (congr 1;omega),HX⟩
        case measure => simp;omega
    · obtain rfl:k = 0:=by omega
      go_wp2;go_ret;exact ⟨0,rfl,Nat.zero_le _,hv.out,.inl rfl,rfl⟩
theorem Try.infoU32:(Try.prog.info? 68).map (fun i => (i.zero,i.size,i.bytes)) = some (some (.int .u32 0),1,4):=by kernel_rfl
theorem ints_news {w:World} {B:Nat} {a:Addr} {l:List Int} {k:IntKind} (hz:Kt.Ints w B k (some a) l):∀ j u,(l.map (Value.int k))[j]? = some u → w.cell? (a.add j) = some u:=by
  intro j u hj;have hlt:j < l.length:=by
    rcases Nat.lt_or_ge j l.length with h | h
    · exact h
    · rw [List.getElem?_eq_none (by simpa using h)] at hj;cases hj
  obtain ⟨b,off,e,_,hc⟩:=hz (by omega);injection e with e;subst e;rw [List.getElem?_map,Ls.nth_of hlt] at hj;have:=hc j hlt;simp only [Option.map_some,Option.some.injEq] at hj;rw [← hj,Addr.add_lit];exact this
theorem copied_any (A:Option Addr) (n cp:Nat) (l:List Int) (w:World) (hl:l.length = n) (hz:Kt.Ints w w.heap.size .u32 A l) (hA:A = none → n = 0 ∧ cp = 0) (hn:n * 4 ≤ 140737488351232) :
    Calls Try.prog 23 #[.slice A n cp] w fun e w' => ∃ v,e = .returned v ∧ Kt.Row w' w.heap.size .u32 v l ∧ Below w.heap.size w w':=by
  subst hl;obtain ⟨i0,hi0,hz0,hz1,hz2⟩:=info_parts Try.infoU32;cases A with
  | none =>
    obtain ⟨h0,rfl⟩:=hA rfl;have e:l = []:=List.eq_nil_of_length_eq_zero h0;subst e;go_enter Try.func23,Try.ntmps23;go_wp2_with (at_builtin;refine wpList_append_own_none rfl (.const (.slice none 0 0)) (.tmp 3) 33 rfl w.heap.size 68 i0 1 Try.underlying33 hi0 _ 0 [] rfl (World.ownsRow_nil _ _ _ _) rfl ?_);go_wp2;go_ret;exact ⟨_,rfl,Kt.Row.nil _ _ _,Below.refl _ _⟩
  | some a =>
    have hnews:=ints_news hz;go_enter Try.func23,Try.ntmps23;go_wp2_with (at_builtin;refine wpList_append_own _ rfl (.const (.slice none 0 0)) (.tmp 3) 33 rfl w.heap.size 68 i0 (.int .u32 0) 1 4 Try.underlying33 hi0 hz0 hz1 hz2 rfl (by decide) _ 0 [] rfl (World.ownsRow_nil _ _ _ _) a l.length cp (l.map (Value.int .u32)) rfl (by simp) hnews (ints_oneCell .u32 l) (by unfold maxLen;omega) (by omega) (Nat.le_refl _) ?_);intro v' w1 hown hgrow _
    try simp only [Nat.zero_add,List.nil_append] at hown
    have hr:Kt.Row w1 w.heap.size .u32 v' l:=Kt.Row.of_own (T:=68) (show Kt.Own w1 w.heap.size 68 .u32 v' l from hown);have hb:Below w.heap.size w w1:=(Below.refl _ _).grown hgrow (Nat.le_refl _) (fun g hg => by simp [Value.ownBlock] at hg);clear hown hgrow hnews;go_wp2;go_ret;exact ⟨v',rfl,hr,hb⟩
end Go.Proofs.Ytdbfiflmeiidjaa
end
