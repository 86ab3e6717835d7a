/- Joined: NatT, NatH, GrS. -/
import Derived.Test.YtdbfiflmeiidjaaSa08
import Derived.Lib.ItoaMem
import Derived.Test.YtdbfiflmeiidjaaSa09
import Derived.Test.YtdbfiflmeiidjaaSa07
import Derived.Test.YtdbfiflmeiidjaaSa01
section
/- Plain facts on the decimal digits of numbers. No program in sight. -/
namespace Nt
open Go
def lowd (n:Nat):Nat → List Int
  | 0 => []
  | k + 1 => (48 + (n / 10 ^ k % 10:Nat):Int) :: lowd n k
theorem lowd_len (n k:Nat):(lowd n k).length = k:=by
  induction k with
  | zero => rfl
  | succ k ih => simp [lowd,ih]
theorem lowd_bd (n k:Nat):∀ x ∈ lowd n k,48 ≤ x ∧ x ≤ 57:=by
  induction k with
  | zero => intro x hx;simp [lowd] at hx
  | succ k ih =>
    intro x hx;rcases List.mem_cons.1 hx with rfl | hx
    · have:=Nat.mod_lt (n / 10 ^ k) (show 0 < 10 by omega);omega
    · exact ih x hx
theorem lowd_snoc (n k:Nat):lowd n (k + 1) = lowd (n / 10) k ++ [(48 + (n % 10:Nat):Int)]:=by
  induction k with
  | zero => simp [lowd]
  | succ k ih =>
    have e:n / 10 / 10 ^ k = n / 10 ^ (k + 1):=by rw [Nat.div_div_eq_div_mul,Nat.pow_succ,Nat.mul_comm]
    rw [lowd,ih];show _ = (48 + (n / 10 / 10 ^ k % 10:Nat):Int) :: lowd (n / 10) k ++ _;rw [e];rfl
def bytes (l:List Int):List UInt8:=l.map fun x => UInt8.ofNat x.toNat
theorem dec_step {u:Nat} (h:10 ≤ u):Lib.decDigits u = Lib.decDigits (u / 10) ++ [UInt8.ofNat (48 + u % 10)]:=by
  rw [Lib.decDigits,dif_neg (by omega)]
theorem lowd_dec (k:Nat):∀ n:Nat,10 ^ k ≤ n → n < 10 ^ (k + 1) → bytes (lowd n (k + 1)) = Lib.decDigits n:=by
  induction k with
  | zero =>
    intro n h1 h2;rw [Lib.decDigits_one (by simpa using h2)];have:n % 10 = n:=Nat.mod_eq_of_lt (by simpa using h2);have e:(48 + ((n / 10 ^ 0 % 10:Nat):Int)).toNat = 48 + n:=by rw [Nat.pow_zero,Nat.div_one,this];omega
    show [UInt8.ofNat (48 + ((n / 10 ^ 0 % 10:Nat):Int)).toNat] = _;rw [e]
  | succ k ih =>
    intro n h1 h2;rw [Nat.pow_succ] at h1 h2;have hp:0 < 10 ^ k:=Nat.pow_pos (by omega);have h10:10 ≤ n:=by
      have:1 * 10 ≤ 10 ^ k * 10:=Nat.mul_le_mul_right 10 hp;rw [Nat.pow_succ] at h2;omega
    rw [lowd_snoc,dec_step h10,← ih (n / 10) (by omega) (by omega)];unfold bytes;rw [List.map_append];congr 1
theorem lowd_top {n k:Nat} (hd:Ls.nth (lowd n (k + 1)) 0 ≠ 48):10 ^ k ≤ n:=by
  have e:Ls.nth (lowd n (k + 1)) 0 = (48 + (n / 10 ^ k % 10:Nat):Int):=rfl;rw [e] at hd;rcases Nat.lt_or_ge n (10 ^ k) with h | h
  · rw [Nat.div_eq_of_lt h] at hd;simp at hd
  · exact h
theorem lowd_skip {n k:Nat} (hlt:n < 10 ^ (k + 1)) (hd:Ls.nth (lowd n (k + 1)) 0 = 48):n < 10 ^ k:=by
  have e:Ls.nth (lowd n (k + 1)) 0 = (48 + (n / 10 ^ k % 10:Nat):Int):=rfl;rw [e] at hd;rw [Nat.pow_succ] at hlt;have h1:n / 10 ^ k < 10:=by
    rw [Nat.div_lt_iff_lt_mul (Nat.pow_pos (by omega))];omega
  rw [Nat.mod_eq_of_lt h1] at hd;have h2:n / 10 ^ k = 0:=by omega
  exact (Nat.div_eq_zero_iff_lt (Nat.pow_pos (by omega))).1 h2
theorem chunk_digit (x c t:Nat) (ht:t < 9):x / 10 ^ (9 * c) % 1000000000 / 10 ^ t % 10 = x / 10 ^ (9 * c + t) % 10:=by
  rw [Nat.pow_add,← Nat.div_div_eq_div_mul];generalize x / 10 ^ (9 * c) = y;have e:1000000000 = 10 ^ t * 10 ^ (9 - t):=by rw [← Nat.pow_add,show t + (9 - t) = 9 from by omega]
  rw [e,Nat.mod_mul_right_div_self];rw [show 9 - t = (8 - t) + 1 from by omega,Nat.pow_succ,Nat.mul_comm];exact Nat.mod_mul_right_mod _ _ _
theorem pow9 (c:Nat):10 ^ (9 * (c + 1)) = 10 ^ (9 * c) * 1000000000:=by rw [Nat.mul_add,Nat.pow_add]
theorem big_text (a b k:Nat) (ha:a = 93 * k + 32) (hb:28 * k + 10 ≤ b):(2:Nat) ^ a < 10 ^ b:=by
  subst ha;have h1:(2:Nat) ^ 93 ≤ 10 ^ 28:=by decide
  have h2:=Nat.pow_le_pow_left h1 k;have h3:(2:Nat) ^ 32 < 10 ^ 10:=by decide
  rw [← Nat.pow_mul,← Nat.pow_mul] at h2;have h4:(10:Nat) ^ (28 * k + 10) ≤ 10 ^ b:=Nat.pow_le_pow_right (by omega) hb;rw [Nat.pow_add] at h4 ⊢;have hp:0 < (10:Nat) ^ (28 * k):=Nat.pow_pos (by omega);exact Nat.lt_of_lt_of_le (Nat.mul_lt_mul_of_le_of_lt h2 h3 hp) h4
theorem P_pow (k:Nat):P k = ((2 ^ (32 * k):Nat):Int):=by
  induction k with
  | zero => rfl
  | succ k ih =>
    rw [P_succ,ih,Nat.mul_add,Nat.pow_add,Int.natCast_mul,Int.mul_comm];rfl
theorem fits_text {x m b:Nat} (h:(limbs x).length ≤ m) (k:Nat) (hk:32 * m = 93 * k + 32) (hb:28 * k + 10 ≤ b):x < 10 ^ b:=by
  have h1:=(len_le_iff x m).1 h;rw [P_pow] at h1;have h2:x < 2 ^ (32 * m):=Int.ofNat_lt.1 h1;exact Nat.lt_trans h2 (big_text _ _ k hk hb)
end Nt
end
section
/- What Text of the number package returns: its walk. -/
namespace Nt
open Go
theorem low_fill (f:Nat) (l:List Int) (v:Int):(Ls.zeros (f + 1) ++ l).set f v = Ls.zeros f ++ (v :: l):=by
  have e:Ls.zeros (f + 1) = Ls.zeros f ++ [0]:=List.replicate_succ';rw [e,List.append_assoc,List.set_append_right _ _ (by rw [Ls.zeros_len];omega),Ls.zeros_len,Nat.sub_self];rfl
theorem nth_append_right (a b:List Int) (k:Nat) (h:a.length ≤ k):Ls.nth (a ++ b) k = Ls.nth b (k - a.length):=by
  unfold Ls.nth;rw [List.getD,List.getD,List.getElem?_append_right h]
theorem nth_low (n k d:Nat):Ls.nth (lowd n (k + d)) d = Ls.nth (lowd n k) 0:=by
  induction d with
  | zero => rfl
  | succ d ih => exact ih
theorem low_nth (n f m k:Nat) (hkm:k ≤ m):Ls.nth (Ls.zeros f ++ lowd n m) (f + m - k) = Ls.nth (lowd n k) 0:=by
  rw [nth_append_right _ _ _ (by rw [Ls.zeros_len];omega),Ls.zeros_len];have e:m = k + (m - k):=by omega
  rw [show f + m - k - f = m - k from by omega];have h:=nth_low n k (m - k);rwa [← e] at h
theorem low_drop (n f m k:Nat) (hkm:k ≤ m) (j:Nat) (_hj:j < k):Ls.nth (Ls.zeros f ++ lowd n m) (f + m - k + j) = Ls.nth (lowd n k) j:=by
  rw [nth_append_right _ _ _ (by rw [Ls.zeros_len];omega),Ls.zeros_len];rw [show f + m - k + j - f = (m - k) + j from by omega];have h:∀ d,Ls.nth (lowd n (k + d)) (d + j) = Ls.nth (lowd n k) j:=by
    intro d
    induction d with
    | zero => simp
    | succ d ih => rw [show d + 1 + j = (d + j) + 1 from by omega];exact ih
  have e:=h (m - k);rwa [show k + (m - k) = m from by omega] at e
end Nt
namespace Go.Proofs.Ytdbfiflmeiidjaa
open Go Go.RowKit
def isZ:Value → Bool
  | .int .u8 n => n == 0
  | _ => false
def zlook (v:Value):Nat × Bool:=match v with
  | .agg cs => (cs.size,cs.toList.all isZ)
  | _ => (0,false)
theorem isZ_eq {v:Value} (h:isZ v = true):v = .int .u8 0:=by
  unfold isZ at h;split at h
  · rename_i n;have e:n = 0:=by simpa using h
    rw [e]
  · cases h
theorem all_zero:∀ (l:List Value) (n:Nat),l.length = n → l.all isZ = true → l = (Ls.zeros n).map (Value.int .u8)
  | [],n,hn,_ => by simp at hn;subst hn;rfl
  | v :: l,n,hn,h => by
    cases n with
    | zero => simp at hn
    | succ n =>
      simp only [List.all_cons,Bool.and_eq_true] at h;rw [isZ_eq h.1,all_zero l n (by simpa using hn) h.2];rfl
theorem zlookA:((Try.prog.info? 66).bind (fun i => i.zero)).map zlook = some (9873,true):=by kernel_rfl
theorem zeroA (w:World):(zeroValue 66).run Try.prog w = .ok (.agg (Kt.IArr .u8 (Ls.zeros 9873))) w:=by
  have h:=zlookA;cases hi:Try.prog.info? 66 with
  | none => rw [hi] at h;simp at h
  | some i =>
    rw [hi] at h;simp only [Option.bind_some] at h;cases hz:i.zero with
    | none => rw [hz] at h;simp at h
    | some v =>
      rw [hz] at h;simp only [Option.map_some,Option.some.injEq] at h;unfold zlook at h;split at h
      · rename_i cs;simp only [Prod.mk.injEq] at h;have e:=all_zero cs.toList 9873 (by simpa using h.1) h.2;have e2:cs = Kt.IArr .u8 (Ls.zeros 9873):=by
          apply Array.toList_inj.1;rw [e,Kt.IArr]
        unfold zeroValue;simp [typeInfo,hi,hz,e2]
      · simp at h
theorem conv_row (w:World) (b off k cap:Nat) (l:List Int) (hl:l.length = k) (hbd:∀ x ∈ l,48 ≤ x ∧ x ≤ 57) (hc:∀ j,j < k → w.cell? ⟨b,off + j,none⟩ = some (.int .u8 (Ls.nth l j))) :
    (Go.convert 70 9 (.slice (some ⟨b,off,none⟩) k cap)).run Try.prog w = .ok (.string ⟨(Nt.bytes l).toArray⟩) w:=by
  have hlen:(Nt.bytes l).length = k:=by unfold Nt.bytes;rw [List.length_map];exact hl
  have h:=run_convert_bytes_back (P:=Try.prog) w 70 9 5 ⟨b,off,none⟩ cap (Nt.bytes l) Try.underlying70 Try.underlying5 Try.underlying9 (fun j hj => by
    rw [hlen] at hj;have h1:=hc j hj;have h2:=hbd _ (Ls.nth_mem l j (by omega));have e:(Nt.bytes l)[j] = UInt8.ofNat (Ls.nth l j).toNat:=by
      rw [Ls.nth_get l j (by omega)];simp only [Nt.bytes,List.getElem_map]
    rw [Addr.add_lit,h1,e];have e2:(UInt8.ofNat (Ls.nth l j).toNat).toNat = (Ls.nth l j).toNat:=by
      rw [UInt8.toNat_ofNat'];omega
    rw [e2];congr 2;omega)
  rwa [hlen] at h
theorem ret_si {a b:ByteArray} {n:Int} (h:a = b):Ending.returned (.tuple #[.string a,.int .i64 n]) = .returned (.tuple #[.string b,.int .i64 n]):=by rw [h]
theorem slice_arr (w:World) (g f k:Nat) (hf:f + k = 9873) (hk:0 < k) :
    (Instr.sliceAt 66 (.pointer (some ⟨g,0,none⟩)) (some (.int .i64 (f:Int))) none none).run Try.prog w = .ok (.slice (some ⟨g,f,none⟩) k k) w:=by
  have hL:Try.prog.arrayLen 66 = 9873:=by kernel_rfl
  have hs:∀ w,(sizeOf (Try.prog.elem 66)).run Try.prog w = .ok 1 w:=fun w => by kernel_rfl
  rw [run_sliceAt_array_l w 66 _ (by kernel_rfl) .i64 f (by omega) (by rw [hL];omega),hs];simp only [Result.andThen,slicedAt,hL,Int.toNat_natCast];rw [if_neg (by omega),Addr.add_lit,show 9873 - f = k from by omega,Nat.zero_add,Nat.mul_one]
set_option maxRecDepth 100000 in
set_option maxHeartbeats 2000000 in
theorem text_at (x:Nat) (l1:Nat) (A:Option Addr) (n ca:Nat) (w:World) (hx:Kt.Num w l1 (.slice A n ca) x) (hn:(Nt.limbs x).length = n) (h1:n ≤ 1024) :
    Calls Try.prog 8 #[.slice A n ca] w fun e w' => e = .returned (.tuple #[.string ⟨(Lib.decDigits x).toArray⟩,.int .i64 0]) ∧ Below w.heap.size w w':=by
  have ha:=num_ints hx;have hfits:∀ M:Nat,M = 9873 → x < 10 ^ M:=fun M hM => Nt.fits_text (x:=x) (m:=1024) (b:=M) (by omega) 352 (by omega) (by omega)
  obtain ⟨M,HM⟩:∃ M:Nat,Hid (M = 9873):=⟨_,Lib.hid rfl⟩;have HB:=Lib.hid (hfits M HM.out);clear hfits;have HN:=Lib.hid hn;have HX:=Lib.hid hx;have HR1:=Lib.hid (num_right (x:=x) (by omega));clear hn hx;have hz:=zeroA;go_enter Try.func8,Try.ntmps8;go_wp2_with fail;refine (right_any A n ca _ _ HN.out ha (by omega)).mono ?_;rw [HR1.out];rintro e w' ⟨rfl,rfl⟩;go_wp2_with fail;clear hz;refine (copied_num (x:=x) (HX.out.alloc _) (by have:=HN.out;omega)).mono ?_;rintro e w1 ⟨v,rfl,hv,hbel⟩;have hblk0:Kt.IBlk w1 w.heap.size 66 .u8 (Ls.zeros 9873):=(Kt.IBlk.new w _ _ _).on hbel;have hsz:(w.alloc (.cells (Kt.IArr .u8 (Ls.zeros 9873)) 66)).heap.size = w.heap.size + 1:=by simp
  rw [hsz] at hv;have hb1:Below w.heap.size w w1:=((Below.refl _ _).alloc (Nat.le_refl _) _).trans (hbel.mono (by simp));obtain ⟨A1,c1,rfl,_,_⟩:=num_ok hv;rw [HN.out] at hv ⊢;clear hsz hbel;go_wp2_with fail;go_loopw [5,6] (fun u5 u6 wr => ∃ (c f n2 cp:Nat) (A2:Option Addr),u5 = .int .i64 f ∧ u6 = .slice A2 n2 cp ∧ f ≤ 9873 ∧ n2 ≤ 1024 ∧ Hid (f + 9 * c = 9873) ∧ Hid ((Nt.limbs (x / 10 ^ (9 * c))).length = n2) ∧ Hid (Kt.Num wr (w.heap.size + 1) (.slice A2 n2 cp) (x / 10 ^ (9 * c))) ∧ Kt.IBlk wr w.heap.size 66 .u8 (Ls.zeros f ++ Nt.lowd x (9 * c)) ∧ Below w.heap.size w wr) (fun u _ _ => (intOf u).toNat)
  case atStart => exact ⟨0,9873,n,c1,A1,rfl,rfl,Nat.le_refl _,h1,Lib.hid rfl,Lib.hid (by simp [HN.out]),Lib.hid (by simpa using hv),by simpa [Nt.lowd] using hblk0,hb1⟩
  case round =>
    obtain ⟨c,f,n2,cp,A2,rfl,rfl,hf,hn2,hfc,hlen,hnum,hblk,hbel⟩:=hrel;by_cases h0:0 < n2
    · obtain ⟨y,hy⟩:∃ y,Hid (x / 10 ^ (9 * c) = y):=⟨_,Lib.hid rfl⟩;rw [hy.out] at hlen hnum;have hf9:9 ≤ f:=by
        have hy0:y ≠ 0:=fun e => by rw [e] at hlen;have:=hlen.out;simp [Nt.limbs_zero] at this;omega
        have h2:10 ^ (9 * c) ≤ x:=by
          rcases Nat.lt_or_ge x (10 ^ (9 * c)) with h | h
          · exact absurd (by rw [← hy.out];exact Nat.div_eq_of_lt h) hy0
          · exact h
        have h3:9 * c < 9873:=by
          rcases Nat.lt_or_ge (9 * c) M with h | h
          · have:=HM.out;omega
          · have h4:=Nat.pow_le_pow_right (show 0 < 10 by omega) h;exact absurd (Nat.lt_of_lt_of_le HB.out (Nat.le_trans h4 h2)) (Nat.lt_irrefl _)
        have:=hfc.out;omega
      obtain ⟨g,cg,e,hcg,hlo,hrow⟩:=Kt.Row.at _ hnum.out (by have:=hlen.out;omega);rw [hlen.out] at e hcg;injection e with e1 e2 e3;subst e1;subst e3;clear e2;go_wp2_with fail;refine (divided_any g n2 cp (Nt.limbs y) 1000000000 _ hlen.out hrow (Nt.limbs_Ok y) (by omega) (by omega) (by omega)).mono ?_;rw [Nt.V_limbs];rintro e w2 ⟨q,rfl,hlq,hoq,hvq,hrq,hbel2⟩;have HLQ:=Lib.hid hlq;have HVQ:=Lib.hid hvq;have HOQ:=Lib.hid hoq;have hblk2:=hblk.below hbel2 (by omega);have hb2:Below w.heap.size w w2:=hbel.trans (hbel2.mono (by omega));clear hlq hvq hoq hblk hbel hbel2 hrow;have hch0:0 ≤ (y:Int) % 1000000000:=by omega
      have hch1:(y:Int) % 1000000000 ≤ 999999999:=by omega
      obtain ⟨z,hzz⟩:∃ z,Hid ((y:Int) % 1000000000 = z):=⟨_,Lib.hid rfl⟩;rw [hzz.out] at hch0 hch1 ⊢;obtain ⟨z,rfl⟩:=Int.eq_ofNat_of_zero_le hch0;go_wp2_with fail;go_loopw [5,7,20] (fun u5 u7 i wr => ∃ (t f2:Nat) (ch:Nat),t ≤ 9 ∧ u5 = .int .i64 f2 ∧ u7 = .int .u32 ch ∧ i = .int .i64 t ∧ f2 ≤ f ∧ Hid (f2 + t = f) ∧ ch ≤ 999999999 ∧ Hid (ch = z / 10 ^ t) ∧ Kt.IBlk wr w.heap.size 66 .u8 (Ls.zeros f2 ++ Nt.lowd x (9 * c + t)) ∧ Kt.RowAt wr g .u32 q ∧ Below w.heap.size w wr) (fun _ _ i _ => 9 - (intOf i).toNat)
      case atStart => exact ⟨0,f,z,by omega,rfl,rfl,rfl,Nat.le_refl _,Lib.hid rfl,by omega,Lib.hid (by simp),hblk2,hrq,hb2⟩
      case round =>
        obtain ⟨t,f2,ch,ht,rfl,rfl,rfl,hf2,hft,hch,hcz,hblk3,hrq3,hb3⟩:=hrel;by_cases hlt:t < 9
        · obtain ⟨f3,rfl⟩:∃ f3,f2 = f3 + 1:=⟨f2 - 1,by have:=hft.out;omega⟩;rw [show (((f3 + 1:Nat):Int)) = (f3:Int) + 1 from by omega];have hcell:=hblk3.cell f3 (by rw [List.length_append,Ls.zeros_len];omega);have hfr:=hblk3.frozen f3;have HD:Hid (48 + (ch:Int) % 10 = (48 + (x / 10 ^ (9 * c + t) % 10:Nat):Int)):=Lib.hid (by
            rw [← Nt.chunk_digit x c t hlt,hy.out,hcz.out];have e:z = y % 1000000000:=by have:=hzz.out;omega
            rw [e];omega)
          go_wp2_with fail;go_roundw
          case rel => exact ⟨t + 1,f3,ch / 10,by omega,by first | rfl | go_num,by first | rfl | go_num,by go_num,by omega,Lib.hid (by have:=hft.out;omega),by omega,Lib.hid (by rw [hcz.out,Nat.div_div_eq_div_mul,Nat.pow_succ]),by rw [show 9 * c + (t + 1) = (9 * c + t) + 1 from rfl,Nt.lowd,← HD.out,← Nt.low_fill];exact hblk3.set_ _ _,hrq3.far (by show g ≠ w.heap.size;omega) _,hb3.setCell (Nat.le_refl _) _⟩
          case measure => simp [intOf];omega
        · obtain rfl:t = 9:=by omega
          go_wp2_with fail;refine (trimmed_any _ n2 cp q _ HLQ.out hrq3.ints hcg (by omega)).mono ?_;rintro e w' ⟨k,rfl,hk,hvt,hlt2,rfl⟩;have e1:=Nt.limbs_take (n:=y / 1000000000) HOQ.out (by rw [HVQ.out];simp) (by rw [HLQ.out];exact hk) hvt hlt2;have e2:y / 1000000000 = x / 10 ^ (9 * (c + 1)):=by rw [Nt.pow9,← Nat.div_div_eq_div_mul,hy.out]
          rw [e2] at e1;have hlen2:(q.take k).length = k:=by rw [List.length_take,HLQ.out];omega
          have h5:=(hrq3.take k).row hlo k cp hlen2 (by omega);rw [← e1] at h5 hlen2;have H5:=Lib.hid h5;have HLEN2:=Lib.hid hlen2;clear hvt hlt2 e1 e2 hlen2 h5;go_wp2_with fail;go_roundw
          case rel => exact ⟨c + 1,f2,k,cp,some ⟨g,0,none⟩,rfl,rfl,by omega,by omega,Lib.hid (by have:=hft.out;have:=hfc.out;omega),HLEN2,Lib.hid H5.out,hblk3,hb3⟩
          case measure => simp [intOf];have:=hft.out;omega
    · obtain rfl:n2 = 0:=by omega
      have HZ:Hid (x < 10 ^ (9 * c)):=Lib.hid (by
        have h2:=(Nt.len_zero_iff _).1 hlen.out;exact (Nat.div_eq_zero_iff_lt (Nat.pow_pos (by omega))).1 h2)
      obtain ⟨m,hm⟩:∃ m,Hid (9 * c = m):=⟨_,Lib.hid rfl⟩;rw [hm.out] at HZ hblk hfc;clear hlen hnum;have hfm:=hfc.out;have HFM:=Lib.hid hfm;have hm9:m ≤ 9873:=by omega
      clear hfm;go_wp2_with fail;obtain ⟨wo,rfl⟩:∃ wo:World,wo = wr:=⟨_,rfl⟩
      go_loop [5] (fun u5 => ∃ f2 k:Nat,u5 = .int .i64 f2 ∧ f2 ≤ 9873 ∧ k ≤ m ∧ Hid (f2 + k = 9873) ∧ Hid (x < 10 ^ k)) (fun u5 => 9873 - (intOf u5).toNat)
      case atStart => exact ⟨f,m,rfl,hf,Nat.le_refl _,HFM,HZ⟩
      case round =>
        obtain ⟨f2,k,rfl,hf2,hkm,hfk,hxk⟩:=hrel;by_cases hlt:f2 < 9873
        · have hk0:0 < k:=by have:=hfk.out;omega
          obtain ⟨k,rfl⟩:∃ j,k = j + 1:=⟨k - 1,by omega⟩;have hcell:=hblk.cell f2 (by rw [List.length_append,Ls.zeros_len,Nt.lowd_len];have:=HFM.out;omega);rw [show f2 = f + m - (k + 1) from by have:=HFM.out;have:=hfk.out;omega,Nt.low_nth x f m (k + 1) hkm,show f + m - (k + 1) = f2 from by have:=HFM.out;have:=hfk.out;omega] at hcell;obtain ⟨d,hd⟩:∃ d,Hid (Ls.nth (Nt.lowd x (k + 1)) 0 = d):=⟨_,Lib.hid rfl⟩;rw [hd.out] at hcell;cases hdb:(d == 48)
          · have HT:Hid (10 ^ k ≤ x):=Lib.hid (Nt.lowd_top (by rw [hd.out];simpa using hdb));have hne:((f2:Int) == 9873) = false:=by simp;omega
            have hcv:=conv_row wo w.heap.size f2 (k + 1) (k + 1) (Nt.lowd x (k + 1)) (Nt.lowd_len _ _) (Nt.lowd_bd _ _) (fun j hj => by
              rw [hblk.cell (f2 + j) (by rw [List.length_append,Ls.zeros_len,Nt.lowd_len];have:=HFM.out;have:=hfk.out;omega)];rw [show f2 + j = f + m - (k + 1) + j from by have:=HFM.out;have:=hfk.out;omega,Nt.low_drop x f m (k + 1) hkm j hj])
            have hsl:=slice_arr wo w.heap.size f2 (k + 1) hfk.out (by omega);go_wp2_with fail;go_ret2;exact ⟨ret_si (by rw [Nt.lowd_dec k x HT.out hxk.out]),hbel⟩
          · have HT:Hid (x < 10 ^ k):=Lib.hid (Nt.lowd_skip hxk.out (by rw [hd.out];simpa using hdb));go_wp2_with fail
            go_round
            case rel => exact ⟨f2 + 1,k,by first | rfl | go_num,by omega,by omega,Lib.hid (by have:=hfk.out;omega),HT⟩
            case measure => simp [intOf];omega
        · obtain rfl:f2 = 9873:=by omega
          have HX0:Hid (x = 0):=Lib.hid (by
            have e:k = 0:=by have:=hfk.out;omega
            have h3:=hxk.out;rw [e] at h3;simpa using h3)
          go_wp2_with fail;go_ret2;exact ⟨ret_si (by rw [HX0.out,Lib.decDigits_one (by omega)];rfl),hbel⟩
theorem text_num {w:World} {l1:Nat} {u:Value} {x:Nat} (hx:Kt.Num w l1 u x) (h1:(Nt.limbs x).length ≤ 1024) :
    Calls Try.prog 8 #[u] w fun e w' => e = .returned (.tuple #[.string ⟨(Lib.decDigits x).toArray⟩,.int .i64 0]) ∧ Below w.heap.size w w':=by
  obtain ⟨A,c,rfl,_,_⟩:=num_ok hx;exact text_at x l1 A _ c w hx rfl h1
end Go.Proofs.Ytdbfiflmeiidjaa
end
section
/- A chart that is made: what is read of it, and its two memories. -/
namespace Gr
theorem P_pow:∀ k:Nat,Nt.P k = ((2 ^ (32 * k):Nat):Int)
  | 0 => rfl
  | k + 1 => by
    have h:=P_pow k;rw [Nt.P_succ,h,show 32 * (k + 1) = 32 + 32 * k from by omega,Nat.pow_add];simp
theorem limbs_fit {x:Nat} (h:∀ N,32000 ≤ N → x < 2 ^ N):(Nt.limbs x).length ≤ 1024:=by
  obtain ⟨q,hq⟩:∃ q,q = 1000:=⟨_,rfl⟩;have h2:(Nt.limbs x).length ≤ q:=by
    rw [Nt.len_le_iff,P_pow];exact Int.ofNat_lt.2 (h (32 * q) (by omega))
  omega
theorem ways_lt {g:List Rule} {ρ:Int → Nat} (hR:Ranked g ρ) (hg:g.length ≤ 256) (hit:Nat → Int → Bool) (n:Nat) (l:List Item) (i j:Nat) (h30:j ≤ i + 30) (hn:j - i ≤ n) {N:Nat} (hN:32000 ≤ N):ways g hit n l i j < 2 ^ N:=by
  by_cases hij:i < j
  · obtain ⟨c,hc⟩:∃ c,c = 1028:=⟨_,rfl⟩;obtain ⟨d,hd⟩:∃ d,d = 1036:=⟨_,rfl⟩;have h:=parts_bd hc hit (D g hit n) l i j (by omega) (fun s a b h1 h2 h3 _ => by
      have:=cnt_bd hc hd hR hg hit n _ s a b (Nat.le_refl _) h2 (by omega) (by omega);have hρ:=hR.le s;exact pow_le this (by omega) (by omega))
    have h2:ways g hit n l i j * 2 ^ 0 ≤ 2 ^ (N - 1):=pow_le h (by omega) (by omega);rw [Nat.pow_zero,Nat.mul_one] at h2;exact Nat.lt_of_le_of_lt h2 (Nat.pow_lt_pow_right (by omega) (by omega))
  · have:ways g hit n l i j ≤ 1:=by
      unfold ways;cases l with
      | nil => rw [len_nil];split <;> omega
      | cons x l => rw [parts_short hit _ _ _ _ (by simp;omega)];simp
    have h3:(2:Nat) ^ 1 < 2 ^ N:=Nat.pow_lt_pow_right (by omega) (by omega);omega
theorem ways_lt1 {g:List Rule} {ρ:Int → Nat} (hR:Ranked g ρ) (hg:g.length ≤ 2) (hit:Nat → Int → Bool) (n:Nat) (l:List Item) (i j:Nat) (h30:j ≤ i + 40) (hn:j - i ≤ n) {N:Nat} (hN:32000 ≤ N):ways g hit n l i j < 2 ^ N:=by
  by_cases hij:i < j
  · obtain ⟨c,hc⟩:∃ c,c = 139:=⟨_,rfl⟩;obtain ⟨d,hd⟩:∃ d,d = 140:=⟨_,rfl⟩;have h:=parts_bd1 hc hit (D g hit n) l i j (by omega) (fun s a b h1 h2 h3 _ => by
      have:=cnt_bd1 hc hd hR hg hit n _ s a b (Nat.le_refl _) h2 (by omega) (by omega);have hρ:=hR.le s;exact pow_le this (by omega) (by omega))
    have h2:ways g hit n l i j * 2 ^ 0 ≤ 2 ^ (N - 1):=pow_le h (by omega) (by omega);rw [Nat.pow_zero,Nat.mul_one] at h2;exact Nat.lt_of_le_of_lt h2 (Nat.pow_lt_pow_right (by omega) (by omega))
  · have:ways g hit n l i j ≤ 1:=by
      unfold ways;cases l with
      | nil => rw [len_nil];split <;> omega
      | cons x l => rw [parts_short hit _ _ _ _ (by simp;omega)];simp
    have h3:(2:Nat) ^ 1 < 2 ^ N:=Nat.pow_lt_pow_right (by omega) (by omega);omega
theorem ways_fit {g:List Rule} {ρ:Int → Nat} (hR:Ranked g ρ) (hg:g.length ≤ 256) (hit:Nat → Int → Bool) (n:Nat) (l:List Item) (i j:Nat) {q:Nat} (hf:Fit g q) (hq:j ≤ i + q) (hn:j - i ≤ n) {N:Nat} (hN:32000 ≤ N):ways g hit n l i j < 2 ^ N:=by
  unfold Fit at hf;rcases hf with h | ⟨h,h2⟩
  · exact ways_lt hR hg hit n l i j (by omega) hn hN
  · exact ways_lt1 hR h2 hit n l i j (by omega) hn hN
def byRules (g:List Rule) (hit:Nat → Int → Bool) (n:Nat) (s:Int) (i j k:Nat):Nat:=(((rulesOf g s).take k).map fun r => ways g hit n (rul g r).right i j).sum
theorem byRules_succ (g:List Rule) (hit:Nat → Int → Bool) (n:Nat) (s:Int) (i j k:Nat) (h:k < (rulesOf g s).length):byRules g hit n s i j (k + 1) = byRules g hit n s i j k + ways g hit n (rul g ((rulesOf g s).getD k 0)).right i j:=by
  unfold byRules;rw [List.take_succ_eq_append_getElem h,List.map_append,List.sum_append,List.getD_eq_getElem?_getD,List.getElem?_eq_getElem h];simp
theorem byRules_all {g:List Rule} {ρ:Int → Nat} (hR:Ranked g ρ) (hit:Nat → Int → Bool) (n:Nat) (s:Int) (i j:Nat) (h:j - i ≤ n):byRules g hit n s i j (rulesOf g s).length = cnt g hit n s i j:=by
  unfold byRules;rw [List.take_length,cnt_eq hR hit n s i j h]
theorem byRules_le {g:List Rule} {ρ:Int → Nat} (hR:Ranked g ρ) (hit:Nat → Int → Bool) (n:Nat) (s:Int) (i j k:Nat) (h:j - i ≤ n):byRules g hit n s i j k ≤ cnt g hit n s i j:=by
  rw [cnt_eq hR hit n s i j h,← List.take_append_drop k (rulesOf g s),List.map_append,List.sum_append];unfold byRules;omega
end Gr
namespace Kt
open Go Go.RowKit
def NumM (w:World) (M:Nat → Prop) (v:Value) (n:Nat):Prop :=
  ∃ A c,v = .slice A (Nt.limbs n).length c ∧ (Nt.limbs n).length ≤ c ∧ (A = none → c = 0) ∧ (0 < (Nt.limbs n).length → ∃ b,A = some ⟨b,0,none⟩ ∧ ¬ M b ∧ b < w.heap.size ∧
    (∀ j,j < (Nt.limbs n).length → w.cell? ⟨b,j,none⟩ = some (.int .u32 (Ls.nth (Nt.limbs n) j))) ∧ ∀ j,w.frozen? ⟨b,j,none⟩ = false)
variable {w w':World} {M M':Nat → Prop} {v:Value} {n:Nat}
theorem NumM.zero (w:World) (M:Nat → Prop):NumM w M (.slice none 0 0) 0:=by
  have e:(Nt.limbs 0).length = 0:=(Nt.len_zero_iff 0).2 rfl;exact ⟨none,0,by rw [e],by omega,fun _ => rfl,fun h => by omega⟩
theorem NumM.num (h:NumM w M v n):Num w 0 v n:=by
  obtain ⟨A,c,h1,h2,h3,h4⟩:=h;refine ⟨A,c,h1,h2,h3,fun hp => ?_⟩;obtain ⟨b,e,_,h6,h7,h8⟩:=h4 hp;exact ⟨b,e,Nat.zero_le _,h6,h7,h8⟩
theorem NumM.of_num {lo:Nat} (h:Num w lo v n) (hM:∀ k,M k → k < lo):NumM w M v n:=by
  obtain ⟨A,c,h1,h2,h3,h4⟩:=h;refine ⟨A,c,h1,h2,h3,fun hp => ?_⟩;obtain ⟨b,e,h5,h6,h7,h8⟩:=h4 hp;exact ⟨b,e,fun hm => by have:=hM b hm;omega,h6,h7,h8⟩
theorem NumM.keep (h:NumM w M v n) (hs:w.heap.size ≤ w'.heap.size) (hk:∀ k,k < w.heap.size → ¬ M k → w'.heap[k]? = w.heap[k]?):NumM w' M v n:=by
  obtain ⟨A,c,h1,h2,h3,h4⟩:=h;refine ⟨A,c,h1,h2,h3,fun hp => ?_⟩;obtain ⟨b,e,h5,h6,h7,h8⟩:=h4 hp;have hb:=hk b h6 h5;exact ⟨b,e,h5,by omega,fun j hj => (World.cell?_of_block (a:=⟨b,j,none⟩) hb).trans (h7 j hj),fun j => (World.frozen?_of_block (a:=⟨b,j,none⟩) hb).trans (h8 j)⟩
theorem NumM.less (h:NumM w M v n) (hM:∀ k,M' k → M k):NumM w M' v n:=by
  obtain ⟨A,c,h1,h2,h3,h4⟩:=h;refine ⟨A,c,h1,h2,h3,fun hp => ?_⟩;obtain ⟨b,e,h5,h6,h7,h8⟩:=h4 hp;exact ⟨b,e,fun hm => h5 (hM b hm),h6,h7,h8⟩
def KInts (w:World) (Kn:Nat → Prop) (k:IntKind) (A:Option Addr) (zs:List Int):Prop :=
  0 < zs.length → ∃ b off,A = some ⟨b,off,none⟩ ∧ Kn b ∧ ∀ j,j < zs.length → w.cell? ⟨b,off + j,none⟩ = some (.int k (Ls.nth zs j))
theorem KInts.keep {Kn:Nat → Prop} {k:IntKind} {A:Option Addr} {zs:List Int} (h:KInts w Kn k A zs) (hk:∀ b,Kn b → w'.heap[b]? = w.heap[b]?):KInts w' Kn k A zs:=fun hp => by
  obtain ⟨b,off,h1,h2,h3⟩:=h hp;exact ⟨b,off,h1,h2,fun j hj => (World.cell?_of_block (a:=⟨b,off + j,none⟩) (hk b h2)).trans (h3 j hj)⟩
end Kt
namespace Go.Proofs.Ytdbfiflmeiidjaa
open Go Go.RowKit
structure ChX where
  bc:Nat
  b1:Nat
  b2:Nat
  Kn:Nat → Prop
  g:List Gr.Rule
  tk:List Int
  E:List Gr.End
  nb:Nat → Nat
def hitf (tk:List Int) (i:Nat) (c:Int):Bool:=!(bits .and .u16 (Ls.nth tk i) c == 0)
structure Cht (X:ChX) (W:World):Prop where
  ne1:∀ k,X.Kn k → k ≠ X.b1
  ne2:∀ k,X.Kn k → k ≠ X.b2
  lt:∀ k,X.Kn k → k < W.heap.size
  kbc:X.Kn X.bc
  c0:∃ A c,W.cell? ⟨X.bc,0,none⟩ = some (.slice A X.tk.length c) ∧ Kt.KInts W X.Kn .u16 A X.tk
  rows:∀ s:Nat,s < 64 → ∃ A c,W.cell? ⟨X.bc,1 + s,none⟩ = some (.slice A (Gr.rulesOf X.g (s:Int)).length c) ∧ Kt.KInts W X.Kn .i64 A ((Gr.rulesOf X.g (s:Int)).map Int.ofNat)
  c65:∃ A c zs,W.cell? ⟨X.bc,65,none⟩ = some (.slice A X.g.length c) ∧ zs.length = X.g.length ∧ Kt.KInts W X.Kn .i64 A zs ∧ ∀ r,r < X.g.length → Ls.nth zs r = (X.nb r:Int)
  nbE:∀ r,r < X.g.length → Gr.Ends X.E (X.nb r) (Gr.rul X.g r).right
  c66:∃ ge c,W.cell? ⟨X.bc,66,none⟩ = some (.slice (some ⟨ge,0,none⟩) X.E.length c) ∧ X.Kn ge ∧ ∀ n,n < X.E.length →
    W.cell? ⟨ge,n * 4,none⟩ = some (.int .u16 (Gr.en X.E n).item.cls) ∧ W.cell? ⟨ge,n * 4 + 1,none⟩ = some (.int .i64 (Gr.en X.E n).item.sym) ∧ W.cell? ⟨ge,n * 4 + 2,none⟩ = some (.int .i64 ((Gr.en X.E n).next:Int)) ∧ W.cell? ⟨ge,n * 4 + 3,none⟩ = some (.int .i64 ((Gr.en X.E n).items:Int))
  c67:W.cell? ⟨X.bc,67,none⟩ = some (.map (some X.b1))
  c68:W.cell? ⟨X.bc,68,none⟩ = some (.map (some X.b2))
  eok:Gr.EndsOk X.E
  b12:X.b1 ≠ X.b2
variable {X:ChX} {W W':World}
theorem Cht.keep (h:Cht X W) (hs:W.heap.size ≤ W'.heap.size) (hk:∀ k,X.Kn k → W'.heap[k]? = W.heap[k]?):Cht X W':=by
  have hc:∀ o v,W.cell? ⟨X.bc,o,none⟩ = some v → W'.cell? ⟨X.bc,o,none⟩ = some v:=fun o v hv => (World.cell?_of_block (a:=⟨X.bc,o,none⟩) (hk _ h.kbc)).trans hv
  refine ⟨h.ne1,h.ne2,fun k hk2 => Nat.lt_of_lt_of_le (h.lt k hk2) hs,h.kbc,?_,fun s hs2 => ?_,?_,h.nbE,?_,hc _ _ h.c67,hc _ _ h.c68,h.eok,h.b12⟩
  · obtain ⟨A,c,h1,h2⟩:=h.c0;exact ⟨A,c,hc _ _ h1,h2.keep hk⟩
  · obtain ⟨A,c,h1,h2⟩:=h.rows s hs2;exact ⟨A,c,hc _ _ h1,h2.keep hk⟩
  · obtain ⟨A,c,zs,h1,h2,h3,h4⟩:=h.c65;exact ⟨A,c,zs,hc _ _ h1,h2,h3.keep hk,h4⟩
  · obtain ⟨ge,c,h1,h2,h3⟩:=h.c66;refine ⟨ge,c,hc _ _ h1,h2,fun n hn => ?_⟩;obtain ⟨a1,a2,a3,a4⟩:=h3 n hn;have hg:=hk _ h2;exact ⟨(World.cell?_of_block (a:=⟨ge,n * 4,none⟩) hg).trans a1,(World.cell?_of_block (a:=⟨ge,n * 4 + 1,none⟩) hg).trans a2,(World.cell?_of_block (a:=⟨ge,n * 4 + 2,none⟩) hg).trans a3,(World.cell?_of_block (a:=⟨ge,n * 4 + 3,none⟩) hg).trans a4⟩
abbrev Ch0 (X:ChX) (W W':World):Prop:=Kt.Ch X.b1 X.b2 (fun _ => False) W W'
theorem Ch0.of_below (h:Below W.heap.size W W'):Ch0 X W W':=⟨⟨h.os,h.tape,h.output,h.size⟩,fun k hk _ _ _ => h.block k hk⟩
theorem Cht.on (h:Cht X W) (hc:Ch0 X W W'):Cht X W':=h.keep hc.ext.size fun k hk => hc.same k (h.lt k hk) (fun e => e) (h.ne1 k hk) (h.ne2 k hk)
def up (X:ChX) (M:Nat → Prop):Nat → Prop:=fun k => M k ∨ k = X.b1 ∨ k = X.b2
def spanVal (s i j:Nat):Value:=.agg #[.int .i64 (s:Int),.int .i64 (i:Int),.int .i64 (j:Int)]
theorem spanVal_inj {s i j s' i' j':Nat} (h:spanVal s i j = spanVal s' i' j'):s = s' ∧ i = i' ∧ j = j':=by
  unfold spanVal at h;injection h with h;have h0:=congrArg (fun l => l[0]?) h;have h1:=congrArg (fun l => l[1]?) h;have h2:=congrArg (fun l => l[2]?) h;simp at h0 h1 h2;omega
structure MemE (X:ChX) (W:World) (b:Nat) (Good:Nat → Nat → Nat → Value → Prop):Prop where
  ex:∃ es c,W.heap[b]? = some (.map es c) ∧ ∀ e ∈ es.toList,∃ s i j,e.key = spanVal s i j ∧ (∃ lit,keyOf Try.prog 106 e.key = some lit) ∧ Good s i j e.val
structure Memo (X:ChX) (N:Nat) (M:Nat → Prop) (W:World):Prop where
  n1:¬ M X.b1
  n2:¬ M X.b2
  s1:MemE X W X.b1 fun s i j v => Kt.NumM W (up X M) v (Gr.cnt X.g (hitf X.tk) N (s:Int) i j)
  s2:MemE X W X.b2 fun n i j v => ∃ l,Gr.Ends X.E n l ∧ Kt.NumM W (up X M) v (Gr.ways X.g (hitf X.tk) N l i j)
variable {N:Nat} {M M':Nat → Prop}
theorem Memo.keep (h:Memo X N M W) (hs:W.heap.size ≤ W'.heap.size) (hk:∀ k,k < W.heap.size → ¬ M k → W'.heap[k]? = W.heap[k]?):Memo X N M W':=by
  obtain ⟨es1,c1,e1,f1⟩:=h.s1.ex;obtain ⟨es2,c2,e2,f2⟩:=h.s2.ex;have l1:X.b1 < W.heap.size:=(Array.getElem?_eq_some_iff.1 e1).1;have l2:X.b2 < W.heap.size:=(Array.getElem?_eq_some_iff.1 e2).1;have hk2:∀ k,k < W.heap.size → ¬ up X M k → W'.heap[k]? = W.heap[k]?:=fun k hk1 hn => hk k hk1 fun e => hn (.inl e)
  refine ⟨h.n1,h.n2,⟨es1,c1,(hk _ l1 h.n1).trans e1,fun e he => ?_⟩,⟨es2,c2,(hk _ l2 h.n2).trans e2,fun e he => ?_⟩⟩
  · obtain ⟨s,i,j,a1,a2,a3⟩:=f1 e he;exact ⟨s,i,j,a1,a2,a3.keep hs hk2⟩
  · obtain ⟨n,i,j,a1,a2,l,a3,a4⟩:=f2 e he;exact ⟨n,i,j,a1,a2,l,a3,a4.keep hs hk2⟩
theorem Memo.below (h:Memo X N M W) (hb:Below W.heap.size W W'):Memo X N M W':=h.keep hb.size fun k hk _ => hb.block k hk
theorem Memo.less (h:Memo X N M W) (hM:∀ k,M' k → M k):Memo X N M' W:=by
  have hu:∀ k,up X M' k → up X M k:=fun k hk => hk.imp (hM k) id
  obtain ⟨es1,c1,e1,f1⟩:=h.s1.ex;obtain ⟨es2,c2,e2,f2⟩:=h.s2.ex;refine ⟨fun e => h.n1 (hM _ e),fun e => h.n2 (hM _ e),⟨es1,c1,e1,fun e he => ?_⟩,⟨es2,c2,e2,fun e he => ?_⟩⟩
  · obtain ⟨s,i,j,a1,a2,a3⟩:=f1 e he;exact ⟨s,i,j,a1,a2,a3.less hu⟩
  · obtain ⟨n,i,j,a1,a2,l,a3,a4⟩:=f2 e he;exact ⟨n,i,j,a1,a2,l,a3,a4.less hu⟩
theorem NumM.ch0 {v:Value} {n:Nat} (h:Kt.NumM W (up X M) v n) (hc:Ch0 X W W'):Kt.NumM W' (up X M) v n :=
  h.keep hc.ext.size fun k hk hn => hc.same k hk (fun e => e) (fun e => hn (.inr (.inl e))) (fun e => hn (.inr (.inr e)))
theorem Memo.put1 {es':Array MapEntry} {c':Nat} (h:Memo X N M W) (hne:X.b1 ≠ X.b2) (he:∀ e ∈ es'.toList,∃ s i j,e.key = spanVal s i j ∧ (∃ lit,keyOf Try.prog 106 e.key = some lit) ∧ Kt.NumM W (up X M) e.val (Gr.cnt X.g (hitf X.tk) N (s:Int) i j)) :
    Memo X N M (W.putObj X.b1 (.map es' c')):=by
  obtain ⟨es1,c1,e1,f1⟩:=h.s1.ex;obtain ⟨es2,c2,e2,f2⟩:=h.s2.ex;have l1:X.b1 < W.heap.size:=(Array.getElem?_eq_some_iff.1 e1).1;have hk2:∀ k,k < W.heap.size → ¬ up X M k → (W.putObj X.b1 (.map es' c')).heap[k]? = W.heap[k]?:=fun k _ hn => World.putObj_heap_other fun e => hn (.inr (.inl e))
  have hs:W.heap.size ≤ (W.putObj X.b1 (.map es' c')).heap.size:=by simp
  refine ⟨h.n1,h.n2,⟨es',c',World.putObj_heap_same l1,fun e hm => ?_⟩,⟨es2,c2,(World.putObj_heap_other hne.symm).trans e2,fun e hm => ?_⟩⟩
  · obtain ⟨s,i,j,a1,a2,a3⟩:=he e hm;exact ⟨s,i,j,a1,a2,a3.keep hs hk2⟩
  · obtain ⟨n,i,j,a1,a2,l,a3,a4⟩:=f2 e hm;exact ⟨n,i,j,a1,a2,l,a3,a4.keep hs hk2⟩
theorem Memo.put2 {es':Array MapEntry} {c':Nat} (h:Memo X N M W) (hne:X.b1 ≠ X.b2) (he:∀ e ∈ es'.toList,∃ n i j,e.key = spanVal n i j ∧ (∃ lit,keyOf Try.prog 106 e.key = some lit) ∧ ∃ l,Gr.Ends X.E n l ∧ Kt.NumM W (up X M) e.val (Gr.ways X.g (hitf X.tk) N l i j)) :
    Memo X N M (W.putObj X.b2 (.map es' c')):=by
  obtain ⟨es1,c1,e1,f1⟩:=h.s1.ex;obtain ⟨es2,c2,e2,f2⟩:=h.s2.ex;have l2:X.b2 < W.heap.size:=(Array.getElem?_eq_some_iff.1 e2).1;have hk2:∀ k,k < W.heap.size → ¬ up X M k → (W.putObj X.b2 (.map es' c')).heap[k]? = W.heap[k]?:=fun k _ hn => World.putObj_heap_other fun e => hn (.inr (.inr e))
  have hs:W.heap.size ≤ (W.putObj X.b2 (.map es' c')).heap.size:=by simp
  refine ⟨h.n1,h.n2,⟨es1,c1,(World.putObj_heap_other hne).trans e1,fun e hm => ?_⟩,⟨es',c',World.putObj_heap_same l2,fun e hm => ?_⟩⟩
  · obtain ⟨s,i,j,a1,a2,a3⟩:=f1 e hm;exact ⟨s,i,j,a1,a2,a3.keep hs hk2⟩
  · obtain ⟨n,i,j,a1,a2,l,a3,a4⟩:=he e hm;exact ⟨n,i,j,a1,a2,l,a3,a4.keep hs hk2⟩
end Go.Proofs.Ytdbfiflmeiidjaa
end
