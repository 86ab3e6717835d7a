/- Plain laws of sums: the order does not matter; two parts. No program in sight. -/
import Derived.Test.YtpobjacfhgnfhaaDoorWeights
namespace Go.Proofs.YtpobjacfhgnfhaaDoor
open Go Go.RowKit

def ams (l : List Int) : List Int := (l.take 4096).map amountOf
theorem ams_len (l : List Int) : (ams l).length = min 4096 l.length := by simp [ams]
theorem ams_nth (l : List Int) (k : Nat) (h : k < l.length) (h' : k < 4096) : Ls.nth (ams l) k = amountOf (Ls.nth l k) := by
  have e : (ams l)[k]? = some (amountOf (Ls.nth l k)) := by
    unfold ams
    rw [List.getElem?_map, List.getElem?_take, if_pos h', Ls.nth_of h]; rfl
  simp only [Ls.nth, List.getD, e, Option.getD_some]
theorem ams_all (l : List Int) : (ams l).all inR = true := all_inR fun x hx => by
  obtain ⟨y, _, rfl⟩ := List.mem_map.1 hx
  exact amountOf_bd y
theorem all_sub {zs ys : List Int} (h : zs.all inR = true) (hs : ∀ x ∈ ys, x ∈ zs) : ys.all inR = true := List.all_eq_true.2 fun x hx => List.all_eq_true.1 h x (hs x hx)
theorem sum_cases {zs : List Int} (h : zs.all inR = true) : (sumE zs = 0 ∧ sumV zs = Ls.isum zs ∧ inR (Ls.isum zs) = true) ∨ (sumE zs = 3 ∧ sumV zs = 0 ∧ inR (Ls.isum zs) = false) := by
  cases hs : inR (Ls.isum zs)
  · obtain ⟨a, b⟩ := sum_long h hs; exact .inr ⟨b, a, rfl⟩
  · obtain ⟨a, b⟩ := sum_ok h hs; exact .inl ⟨b, a, rfl⟩
theorem sum_rev {zs : List Int} (h : zs.all inR = true) : sumV zs.reverse = sumV zs ∧ sumE zs.reverse = sumE zs := by
  have h' : zs.reverse.all inR = true := all_sub h (fun x hx => by simpa using hx)
  unfold sumV sumE
  rw [h, h', Ls.isum_reverse]
  exact ⟨rfl, rfl⟩
/-- Where both parts' sums are amounts, their sum is that of all. -/
theorem sum_parts {zs : List Int} (h : zs.all inR = true) (k : Nat) (h1 : sumE (zs.take k) = 0) (h2 : sumE (zs.drop k) = 0) :
    sumV [sumV (zs.take k), sumV (zs.drop k)] = sumV zs ∧ sumE [sumV (zs.take k), sumV (zs.drop k)] = sumE zs := by
  have a1 : (zs.take k).all inR = true := all_sub h fun x hx => List.mem_of_mem_take hx
  have a2 : (zs.drop k).all inR = true := all_sub h fun x hx => List.mem_of_mem_drop hx
  rcases sum_cases a1 with ⟨_, v1, i1⟩ | ⟨e1, _, _⟩
  · rcases sum_cases a2 with ⟨_, v2, i2⟩ | ⟨e2, _, _⟩
    · rw [v1, v2]
      have e : Ls.isum zs = Ls.isum (zs.take k) + Ls.isum (zs.drop k) := by rw [← Ls.isum_append, List.take_append_drop]
      have a3 : [Ls.isum (zs.take k), Ls.isum (zs.drop k)].all inR = true := by simp [i1, i2]
      have e2 : Ls.isum [Ls.isum (zs.take k), Ls.isum (zs.drop k)] = Ls.isum zs := by simp [Ls.isum]; omega
      unfold sumV sumE
      rw [a3, h, e2]
      exact ⟨rfl, rfl⟩
    · omega
  · omega
theorem rev_nth (zs : List Int) (k : Nat) (h : k < zs.length) : Ls.nth zs.reverse k = Ls.nth zs (zs.length - 1 - k) := by
  have e : zs.reverse[k]? = zs[zs.length - 1 - k]? := List.getElem?_reverse h
  simp only [Ls.nth, List.getD, e]
theorem ints_take {w : World} {B : Nat} {kd : IntKind} {A : Option Addr} {zs : List Int} (h : Kt.Ints w B kd A zs) (k : Nat) : Kt.Ints w B kd A (zs.take k) := fun hn => by
  have hl : (zs.take k).length ≤ k ∧ (zs.take k).length ≤ zs.length := by rw [List.length_take]; omega
  obtain ⟨b, off, e, hb, hc⟩ := h (by omega)
  exact ⟨b, off, e, hb, fun j hj => by rw [Ls.nth_take _ _ _ (by omega)]; exact hc j (by omega)⟩
theorem ints_drop {w : World} {B : Nat} {kd : IntKind} {b off : Nat} {zs : List Int} (h : Kt.Ints w B kd (some ⟨b, off, none⟩) zs) (k : Nat) : Kt.Ints w B kd (some ⟨b, off + k, none⟩) (zs.drop k) := fun hn => by
  rw [List.length_drop] at hn
  obtain ⟨b', off', e, hb, hc⟩ := h (by omega)
  injection e with e
  injection e with e1 e2 _
  subst e1; subst e2
  refine ⟨b, off + k, rfl, hb, fun j hj => ?_⟩
  rw [List.length_drop] at hj
  rw [Nat.add_assoc, hc (k + j) (by omega)]
  have e : (zs.drop k)[j]? = zs[k + j]? := List.getElem?_drop
  simp only [Ls.nth, List.getD, e]
theorem ints_empty {w : World} {B : Nat} {kd : IntKind} {A : Option Addr} {zs : List Int} (h : zs.length = 0) : Kt.Ints w B kd A zs := fun hn => by omega

end Go.Proofs.YtpobjacfhgnfhaaDoor
