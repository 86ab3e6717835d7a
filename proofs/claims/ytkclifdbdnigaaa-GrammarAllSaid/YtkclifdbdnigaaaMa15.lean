/- Joined: GrI. -/
import Derived.Test.YtkclifdbdnigaaaMa11
section
/- trees: its iterator. -/
namespace Go.Proofs.Ytkclifdbdnigaaa
open Go Go.RowKit Go.Shelf
attribute [local go_sem] Oper.semAt_some Oper.semAt_none Kt.wd_round Kt.wd_depth Kt.wd_fn
variable {X : ChX} {ρ : Int → Nat} {N : Nat}
def lenV : Value → Nat
  | .slice _ n _ => n
  | _ => 0
def triSlot : Nat → Nat := fun jj => match jj with | 0 => 20 | 1 => 21 | 2 => 22 | 3 => 23 | 4 => 24 | 5 => 25 | 6 => 26 | 7 => 27 | 8 => 28 | 9 => 29 | 10 => 30 | 11 => 31 | 12 => 32 | _ => 999
def triS : List Nat := [20, 21, 22, 23, 24, 25, 26, 27, 28, 29, 30, 31, 32]
def triPre : Nat → Bool := fun jj => match jj with | 0 => true | 1 => true | 2 => true | 3 => true | 4 => true | 5 => true | 6 => true | 7 => true | 8 => true | 9 => true | _ => false
def triPost : Nat → Bool := fun jj => match jj with | 11 => true | 12 => true | _ => false
def triPo : Nat → Value → Option Value := fun jj r => match jj with | 11 => some (.int .i64 (lenV r : Int)) | 12 => some (.bool ((lenV r : Int) == 0)) | _ => none
def triP (a0 : Act) (W : World) (bc r nr zb zo i j : Nat) (sl : Value) (R : Value → World → Prop) : Kt.RcP :=
  ⟨13, 10, triSlot, triS, fun jj => match jj with | 0 => some (.pointer (some ⟨bc, 0, none⟩)) | 1 => some (.pointer (some ⟨bc, 0, none⟩)) | 2 => some (.pointer (some ⟨bc, 0, none⟩)) | 3 => some (.pointer (some ⟨bc, 65, none⟩)) | 4 => some (sl) | 5 => some (.int .i64 (r : Int)) | 6 => some (.pointer (some ⟨zb, zo + r, none⟩)) | 7 => some (.int .i64 (nr : Int)) | 8 => some (.int .i64 (i : Int)) | 9 => some (.int .i64 (j : Int)) | _ => none, triPre, triPost, triPo, a0, W, R, fun jj => match jj with | 2 => [1] | 3 => [2] | 4 => [3] | 6 => [4, 5] | 7 => [6] | 10 => [0, 7, 8, 9] | 11 => [10] | 12 => [11] | _ => []⟩
theorem tri_ok {a0 : Act} {W : World} {bc r nr zb zo i j : Nat} {sl : Value} {R : Value → World → Prop} {listed : Array Bool} {act : Act} {w : World} (_ : Kt.RcI (triP a0 W bc r nr zb zo i j sl R) listed act w) (h : 33 ≤ a0.tmps.size) : Kt.RcOk (triP a0 W bc r nr zb zo i j sl R) := by
  refine ⟨fun i j hi hj => (by decide : ∀ i, i < 13 → ∀ j, j < 13 → triSlot i = triSlot j → i = j) i hi j hj, (by decide : ∀ j, j < 13 → triSlot j ∈ triS), fun j hj => Nat.lt_of_lt_of_le ((by decide : ∀ j, j < 13 → triSlot j < 33) j hj) h, Nat.le_of_ble_eq_true rfl, rfl, fun _ => rfl, rfl, rfl, fun j hj => ?_, fun j r u hu => ?_⟩
  · rcases j with _ | _ | _ | _ | _ | _ | _ | _ | _ | _ | _ | _ | _ | j
    all_goals first | exact ⟨rfl, rfl⟩ | (exfalso; exact absurd (show false = true from hj) (by decide))
  · rcases j with _ | _ | _ | _ | _ | _ | _ | _ | _ | _ | _ | _ | _ | j
    all_goals first | rfl | (exfalso; exact absurd (show (none : Option Value) = some u from hu) (by simp))

def trjSlot : Nat → Nat := fun jj => match jj with | 0 => 33 | 1 => 34 | 2 => 35 | 3 => 36 | 4 => 37 | 5 => 38 | 6 => 39 | 7 => 40 | 8 => 41 | 9 => 42 | 10 => 43 | _ => 999
def trjS : List Nat := [33, 34, 35, 36, 37, 38, 39, 40, 41, 42, 43]
def trjPre : Nat → Bool := fun jj => match jj with | 0 => true | 1 => true | 2 => true | 3 => true | 4 => true | 5 => true | 6 => true | 7 => true | 8 => true | 9 => true | _ => false
def trjPost : Nat → Bool := fun _ => false
def trjPo : Nat → Value → Option Value := fun _ _ => none
def trjP (a0 : Act) (W : World) (bc r nr zb zo i j : Nat) (sl : Value) (R : Value → World → Prop) : Kt.RcP :=
  ⟨11, 10, trjSlot, trjS, fun jj => match jj with | 0 => some (.pointer (some ⟨bc, 0, none⟩)) | 1 => some (.pointer (some ⟨bc, 0, none⟩)) | 2 => some (.pointer (some ⟨bc, 0, none⟩)) | 3 => some (.pointer (some ⟨bc, 65, none⟩)) | 4 => some (sl) | 5 => some (.int .i64 (r : Int)) | 6 => some (.pointer (some ⟨zb, zo + r, none⟩)) | 7 => some (.int .i64 (nr : Int)) | 8 => some (.int .i64 (i : Int)) | 9 => some (.int .i64 (j : Int)) | _ => none, trjPre, trjPost, trjPo, a0, W, R, fun jj => match jj with | 2 => [1] | 3 => [2] | 4 => [3] | 6 => [4, 5] | 7 => [6] | 10 => [0, 7, 8, 9] | _ => []⟩
theorem trj_ok {a0 : Act} {W : World} {bc r nr zb zo i j : Nat} {sl : Value} {R : Value → World → Prop} {listed : Array Bool} {act : Act} {w : World} (_ : Kt.RcI (trjP a0 W bc r nr zb zo i j sl R) listed act w) (h : 44 ≤ a0.tmps.size) : Kt.RcOk (trjP a0 W bc r nr zb zo i j sl R) := by
  refine ⟨fun i j hi hj => (by decide : ∀ i, i < 11 → ∀ j, j < 11 → trjSlot i = trjSlot j → i = j) i hi j hj, (by decide : ∀ j, j < 11 → trjSlot j ∈ trjS), fun j hj => Nat.lt_of_lt_of_le ((by decide : ∀ j, j < 11 → trjSlot j < 44) j hj) h, Nat.le_of_ble_eq_true rfl, rfl, fun _ => rfl, rfl, rfl, fun j hj => ?_, fun j r u hu => ?_⟩
  · rcases j with _ | _ | _ | _ | _ | _ | _ | _ | _ | _ | _ | j
    all_goals first | exact ⟨rfl, rfl⟩ | (exfalso; exact absurd (show false = true from hj) (by decide))
  · rcases j with _ | _ | _ | _ | _ | _ | _ | _ | _ | _ | _ | j
    all_goals first | rfl | (exfalso; exact absurd (show (none : Option Value) = some u from hu) (by simp))

def triFr (l H bc yb s : Nat) (sl : Value) (L k : Nat) (u6 u7 u8 u17 u18 u19 u20 u21 u22 u23 u24 u25 u26 u27 u28 u29 u30 u31 u32 u33 u34 u35 u36 u37 u38 u39 u40 u41 u42 u43 u44 u45 u46 u47 u48 u49 u50 u51 u52 u53 : Value) (ds : List Deferred) : Act :=
  { tmps := #[.func (.yield l) #[] #[], .pointer (some ⟨H, 0, none⟩), .pointer (some ⟨H + 1, 0, none⟩), .pointer (some ⟨H + 2, 0, none⟩), .pointer (some ⟨H + 3, 0, none⟩), .pointer (some ⟨yb, 0, none⟩), u6, u7, u8,
    .pointer (some ⟨bc, 0, none⟩), .int .i64 (s : Int), .pointer (some ⟨bc, 0, none⟩), .pointer (some ⟨bc, 1, none⟩), .pointer (some ⟨bc, 1 + s, none⟩), sl, .int .i64 (L : Int), .int .i64 (k : Int), u17, u18, u19, u20, u21, u22, u23, u24, u25, u26, u27, u28, u29, u30, u31, u32, u33, u34, u35, u36, u37, u38, u39, u40, u41, u42, u43, u44, u45, u46, u47, u48, u49, u50, u51, u52, u53], defers := ds }
/-- The trees by the first k rules. -/
def doneR (X : ChX) (N s i j k : Nat) : List Gr.Tr := ((Gr.rulesOf X.g (s : Int)).take k).flatMap fun r => (Gr.parts (hitf X.tk) (Gr.D X.g (hitf X.tk) N) (Gr.rul X.g r).right i j).map (Gr.Tr.node r i j)
theorem doneR_succ {s i j k r : Nat} (h : (Gr.rulesOf X.g (s : Int)).take (k + 1) = (Gr.rulesOf X.g (s : Int)).take k ++ [r]) : doneR X N s i j (k + 1) = doneR X N s i j k ++ (Gr.parts (hitf X.tk) (Gr.D X.g (hitf X.tk) N) (Gr.rul X.g r).right i j).map (Gr.Tr.node r i j) := by
  unfold doneR
  rw [h, List.flatMap_append, List.flatMap_singleton]
theorem doneR_pre {ρ : Int → Nat} (hR : Gr.Ranked X.g ρ) {s i j k r : Nat} (hN : j - i ≤ N) (h : (Gr.rulesOf X.g (s : Int)).take (k + 1) = (Gr.rulesOf X.g (s : Int)).take k ++ [r]) {p : List (List Gr.Tr)} (hp : p <+: Gr.parts (hitf X.tk) (Gr.D X.g (hitf X.tk) N) (Gr.rul X.g r).right i j) :
    doneR X N s i j k ++ p.map (Gr.Tr.node r i j) <+: Gr.D X.g (hitf X.tk) N (s : Int) i j := by
  rw [Gr.D_eq hR _ N _ i j hN, ← List.take_append_drop (k + 1) (Gr.rulesOf X.g (s : Int)), List.flatMap_append, h, List.flatMap_append, List.flatMap_singleton]
  obtain ⟨t, ht⟩ := hp
  rw [← ht, List.map_append]
  exact ⟨t.map (Gr.Tr.node r i j) ++ ((Gr.rulesOf X.g (s : Int)).drop (k + 1)).flatMap fun r => (Gr.parts (hitf X.tk) (Gr.D X.g (hitf X.tk) N) (Gr.rul X.g r).right i j).map (Gr.Tr.node r i j), by simp [doneR]⟩
theorem doneR_all {ρ : Int → Nat} (hR : Gr.Ranked X.g ρ) {s i j k : Nat} (hN : j - i ≤ N) (hk : (Gr.rulesOf X.g (s : Int)).length ≤ k) : doneR X N s i j k = Gr.D X.g (hitf X.tk) N (s : Int) i j := by
  rw [Gr.D_eq hR _ N _ i j hN]
  unfold doneR
  rw [List.take_of_length_le hk]
set_option maxRecDepth 100000 in
set_option maxHeartbeats 2000000 in
theorem trees_step (hX : ChG X ρ) (hE : ChE X) (s i j : Nat) (hs : s < 64) (hij : i ≤ j) (hj : j ≤ X.tk.length) (hN : j - i ≤ N)
    (IH : ∀ r, r ∈ Gr.rulesOf X.g (s : Int) → 0 < Gr.ways X.g (hitf X.tk) N (Gr.rul X.g r).right i j → PartsIt X N (X.nb r) (Gr.rul X.g r).right i j) : TreesIt X N s i j := by
  intro H W0 hC0 hTB hH l n J Jx M W hMlt hKn hsz hInv hJst hJxst hround hJ0
  have hCW : Cht X W := hC0.keep hsz fun k hk => (hKn k (.inl hk)).2
  have hbox : ∀ q v, q < 4 → W0.cell? ⟨H + q, 0, none⟩ = some v → W.cell? ⟨H + q, 0, none⟩ = some v := fun q v hq h => (World.cell?_of_block (a := ⟨H + q, 0, none⟩) (hKn (H + q) (.inr ⟨by omega, by omega⟩)).2).trans h
  obtain ⟨t0, t1, t2, t3⟩ := hTB
  replace t0 := hbox 0 _ (by omega) t0
  replace t1 := hbox 1 _ (by omega) t1
  replace t2 := hbox 2 _ (by omega) t2
  replace t3 := hbox 3 _ (by omega) t3
  have HX := Lib.hid hX
  have HE := Lib.hid hE
  have HIH := Lib.hid IH
  have HR := Lib.hid hround
  have HJ := Lib.hid hJst
  have HJX := Lib.hid hJxst
  have HK := Lib.hid hKn
  clear hX hE IH hround hJst hJxst hKn hbox
  refine callsIn_of_wp_marks Try.func64 rfl trivial ?_ rfl
  simp only [Try.ntmps64, List.size_toArray, List.length_cons, List.length_nil, Nat.reduceAdd, Nat.reduceSub, Array.replicate_succ, Array.replicate_zero, List.push_toArray, List.append_toArray, List.nil_append, List.cons_append]
  gi_wp2
  obtain ⟨W1, hW1⟩ : ∃ W1, W.alloc (.cells #[.func (.yield l) #[] #[]] 122) = W1 := ⟨_, rfl⟩
  have hB1 : Below W.heap.size W W1 := by rw [← hW1]; exact (Below.refl _ _).alloc (Nat.le_refl _) _
  have hyb : Kt.Blk W1 W.heap.size 122 #[.func (.yield l) #[] #[]] := by rw [← hW1]; exact Kt.Blk.new _ _ _
  have hch1 : Ch0 X W W1 := Ch0.of_below hB1
  have hC1 := hCW.on hch1
  have t0' : W1.cell? ⟨H, 0, none⟩ = some (.pointer (some ⟨X.bc, 0, none⟩)) := (hB1.cell (p := ⟨H, 0, none⟩) (by have := hH 0 (by omega); show H < _; omega)).trans t0
  have t1' : W1.cell? ⟨H + 1, 0, none⟩ = some (.int .i64 (s : Int)) := (hB1.cell (p := ⟨H + 1, 0, none⟩) (by have := hH 1 (by omega); show H + 1 < _; omega)).trans t1
  obtain ⟨A, c, r1, r2⟩ := hCW.rows s hs
  replace r1 := (hB1.cell (p := ⟨X.bc, 1 + s, none⟩) (hCW.lt _ hCW.kbc)).trans r1
  have hnew := new_ne hInv
  obtain ⟨L, hLL⟩ : ∃ L, Hid ((Gr.rulesOf X.g (s : Int)).length = L) := ⟨_, Lib.hid rfl⟩
  rw [hLL.out] at r1
  have hL200 : L ≤ 200 := by
    have h1 : (Gr.rulesOf X.g (s : Int)).length ≤ X.g.length := Nat.le_trans (List.length_filter_le _ _) (by simp)
    have h2 := hLL.out
    have h3 := HX.out.len
    omega
  have hs64 : 1 + s < 69 := by omega
  rw [hW1]
  clear hW1
  gi_quiet (fail)
  obtain ⟨W2, hW2⟩ : ∃ W2, W1.drewN nq = W2 := ⟨_, rfl⟩
  have hch2 : Ch0 X W W2 := by rw [← hW2]; exact Ch.drewN hch1 nq
  have hyb2 : Kt.Blk W2 W.heap.size 122 #[.func (.yield l) #[] #[]] := by rw [← hW2]; exact hyb
  have hst2 : Kt.St W.heap.size X.b1 X.b2 M W W2 := ⟨hch2.ext, fun k hk _ h1 h2 => hch2.same k hk (fun e => e) h1 h2⟩
  have hJ2 : J [] M W2 := HJ.out _ _ _ _ hJ0 hst2
  have hM2 : Memo X N M W2 := hInv.keep hch2.ext.size (fun k hk hn => by rw [← hW2]; exact hB1.block k hk)
  have hC2 : Cht X W2 := hCW.on hch2
  rw [hW2]
  obtain ⟨yb, hybe⟩ : ∃ yb, Hid (yb = W.heap.size) := ⟨_, Lib.hid rfl⟩
  have hyb3 : Kt.Blk W2 yb 122 #[.func (.yield l) #[] #[]] := by rw [hybe.out]; exact hyb2
  rw [← hybe.out]
  have hyM : ¬ M yb := fun e => by have := hMlt _ e; have := hybe.out; omega
  clear hW2 hyb2 hyb hJ0 hInv hC1 hch1 hB1 t0' t1' r1
  obtain ⟨nd1, nd2⟩ := hnew yb (by have := hybe.out; omega)
  gi_wp2
  refine wpIn_loop (fun a w => ∃ (k : Nat) (u6 u7 u8 u17 u18 u19 u20 u21 u22 u23 u24 u25 u26 u27 u28 u29 u30 u31 u32 u33 u34 u35 u36 u37 u38 u39 u40 u41 u42 u43 u44 u45 u46 u47 u48 u49 u50 u51 u52 u53 : Value) (ds : List Deferred) (M' : Nat → Prop), k ≤ L ∧ a = triFr l H X.bc yb s (.slice A L c) L k u6 u7 u8 u17 u18 u19 u20 u21 u22 u23 u24 u25 u26 u27 u28 u29 u30 u31 u32 u33 u34 u35 u36 u37 u38 u39 u40 u41 u42 u43 u44 u45 u46 u47 u48 u49 u50 u51 u52 u53 ds ∧
      Hid (J (doneR X N s i j k) M' w ∧ Memo X N M' w ∧ Kt.Ch X.b1 X.b2 M W w ∧ Kt.Sub M W M' w ∧ ¬ M' yb ∧ w.cell? ⟨yb, 0, none⟩ = some (.func (.yield l) #[] #[]) ∧ yb < w.heap.size ∧ Kt.Marks W.heap.size X.b1 X.b2 M' w ds))
    (fun a _ => L - (intOf (a.tmps.getD 16 undef)).toNat) ?start ?round
  case start =>
    refine ⟨0, _, _, _, _, _, _, _, _, _, _, _, _, _, _, _, _, _, _, _, _, _, _, _, _, _, _, _, _, _, _, _, _, _, _, _, _, _, _, _, _, [], M, Nat.zero_le _, rfl, Lib.hid ⟨hJ2, hM2, hch2.more (fun _ e => e.elim), Kt.Sub.refl (fun k hk => Nat.lt_of_lt_of_le (hMlt k hk) hch2.ext.size) |> fun h => ⟨fun k hk => .inl hk, h.lt⟩, hyM, hyb3.cell 0, hyb3.lt, Kt.Marks.nil _⟩⟩
  case round =>
    rintro a w ⟨k, u6, u7, u8, u17, u18, u19, u20, u21, u22, u23, u24, u25, u26, u27, u28, u29, u30, u31, u32, u33, u34, u35, u36, u37, u38, u39, u40, u41, u42, u43, u44, u45, u46, u47, u48, u49, u50, u51, u52, u53, ds, M', hk, rfl, hst⟩
    obtain ⟨hJ, hM, hch, hsub, hyM', hyc, hyl, hmk⟩ := hst.out
    unfold triFr
    by_cases hlt : k < L
    · have hws := hch.ext.size
      have hKM : ∀ k, X.Kn k ∨ H ≤ k ∧ k < H + 4 → ¬ M k := fun k hk => (HK.out k hk).1
      have hCw : Cht X w := hCW.keep hws (fun q hq => hch.same q (hCW.lt q hq) (hKM q (.inl hq)) (hCW.ne1 q hq) (hCW.ne2 q hq))
      have hbx : ∀ q v, q < 4 → W.cell? ⟨H + q, 0, none⟩ = some v → w.cell? ⟨H + q, 0, none⟩ = some v := fun q v hq h => (World.cell?_of_block (a := ⟨H + q, 0, none⟩) (hch.same (H + q) (by have := hH q hq; omega) (hKM _ (.inr ⟨by omega, by omega⟩)) (hH q hq).1 (hH q hq).2.1)).trans h
      have b0 : w.cell? ⟨H, 0, none⟩ = some (.pointer (some ⟨X.bc, 0, none⟩)) := hbx 0 _ (by omega) t0
      have b2 := hbx 2 _ (by omega) t2
      have b3 := hbx 3 _ (by omega) t3
      obtain ⟨b, off, rfl, hkb, hcell⟩ := r2 (by rw [List.length_map, hLL.out]; omega)
      obtain ⟨r, hr⟩ : ∃ r, Hid ((Gr.rulesOf X.g (s : Int)).getD k 0 = r) := ⟨_, Lib.hid rfl⟩
      have hrm : r ∈ Gr.rulesOf X.g (s : Int) := by
        rw [← hr.out, List.getD_eq_getElem?_getD, List.getElem?_eq_getElem (by rw [hLL.out]; exact hlt)]
        exact List.getElem_mem _
      have hrg := (Gr.mem_rulesOf.1 hrm).1
      have hrk : Hid ((Gr.rulesOf X.g (s : Int)).take (k + 1) = (Gr.rulesOf X.g (s : Int)).take k ++ [r]) := Lib.hid (by
        rw [List.take_succ_eq_append_getElem (by rw [hLL.out]; exact hlt), ← hr.out, List.getD_eq_getElem?_getD, List.getElem?_eq_getElem (by rw [hLL.out]; exact hlt)]
        rfl)
      have cq : w.cell? ⟨b, off + k, none⟩ = some (.int .i64 (r : Int)) := by
        have h1 := hcell k (by rw [List.length_map, hLL.out]; exact hlt)
        have h2 : Ls.nth ((Gr.rulesOf X.g (s : Int)).map Int.ofNat) k = (r : Int) := by
          unfold Ls.nth
          rw [List.getD_eq_getElem?_getD, List.getElem?_map, List.getElem?_eq_getElem (by rw [hLL.out]; exact hlt), ← hr.out, List.getD_eq_getElem?_getD, List.getElem?_eq_getElem (by rw [hLL.out]; exact hlt)]
          rfl
        rw [h2] at h1
        exact (World.cell?_of_block (a := ⟨b, off + k, none⟩) (hch.same b (hCW.lt b hkb) (hKM b (.inl hkb)) (hCW.ne1 b hkb) (hCW.ne2 b hkb))).trans h1
      obtain ⟨A2, czs, zs, g1, g2, g3, g4⟩ := hCw.c65
      obtain ⟨zb, zo, rfl, hkz, hcellz⟩ := g3 (by omega)
      have cr := hcellz r (by omega)
      rw [g4 r hrg] at cr
      obtain ⟨G, hG⟩ : ∃ G, Hid (X.g.length = G) := ⟨_, Lib.hid rfl⟩
      have hG2 : r < G ∧ G ≤ 200 := by have := hG.out; have := HX.out.len; omega
      obtain ⟨hrG, hG200⟩ := hG2
      rw [hG.out] at g1
      have hbl := hCw.lt b hkb
      have hbcl := hCw.lt _ hCw.kbc
      have hzbl := hCw.lt zb hkz
      have hHl := hH 0 (by omega)
      have hHl2 := hH 2 (by omega)
      have hHl3 := hH 3 (by omega)
      obtain ⟨rb, hrb⟩ : ∃ rb, w.heap.size = rb := ⟨_, rfl⟩
      gi_wp2_with fail
      obtain ⟨WR, hWR⟩ : ∃ WR, w.alloc (.cells #[.int .i64 (r : Int)] 3) = WR := ⟨_, rfl⟩
      have hBR : Below w.heap.size w WR := by rw [← hWR]; exact (Below.refl _ _).alloc (Nat.le_refl _) _
      have hrbl : Kt.Blk WR rb 3 #[.int .i64 (r : Int)] := by rw [← hWR, ← hrb]; exact Kt.Blk.new _ _ _
      have hcell9 : ∀ a o v, a < w.heap.size → w.cell? ⟨a, o, none⟩ = some v → WR.cell? ⟨a, o, none⟩ = some v := fun a o v ha h => (hBR.cell (p := ⟨a, o, none⟩) ha).trans h
      have x0 := hcell9 _ _ _ (by omega) b0
      have x2 := hcell9 _ _ _ (by omega) b2
      have x3 := hcell9 _ _ _ (by omega) b3
      have xr : WR.cell? ⟨rb, 0, none⟩ = some (.int .i64 (r : Int)) := hrbl.cell 0
      have xg := hcell9 _ _ _ hbcl g1
      have xz := hcell9 _ _ _ hzbl cr
      have hchR : Ch0 X w WR := Ch0.of_below hBR
      have hCR := hCw.on hchR
      have hMR := hM.below hBR
      obtain ⟨_, _, hr8, hrit⟩ := (HX.out.ok r hrg).parts
      have HREST := Lib.hid (rest_any HX.out HE.out (X.nb r) (Gr.rul X.g r).right i j (HE.out.nbE r hrg) (fun x hx => (hrit x hx).1) hr8 hij hj hN M' WR.drew (hCR.on (Ch.drew (Kt.Ch.refl WR))) (Memo.drew hMR) (fun q hq => Nat.lt_of_lt_of_le (hsub.lt q hq) hBR.size))
      rw [hWR]
      refine Kt.region_invIn (Kt.RcI (triP _ WR X.bc r (X.nb r) zb zo i j (.slice (some ⟨zb, zo, none⟩) G czs) (fun v w3 => Ch0 X WR.drew w3 ∧ Memo X N M' w3 ∧ Kt.NumM w3 (up X M') v (Gr.ways X.g (hitf X.tk) N (Gr.rul X.g r).right i j)))) (by kernel_rfl) ?hg Kt.RcI.start ?hstep ?hdone
      case hg =>
        intro q o ho
        rcases q with _ | _ | _ | _ | _ | _ | _ | _ | _ | _ | _ | _ | _ | q
        all_goals first | (cases Option.some.inj ho; rfl) | (exfalso; simp at ho)
      case hstep =>
        intro listed act w2 q o hI ho hn hpre
        have ok := tri_ok hI (Nat.le_of_ble_eq_true rfl)
        rcases q with _ | _ | _ | _ | _ | _ | _ | _ | _ | _ | _ | _ | _ | q
        · cases Option.some.inj ho
          refine Kt.opIn_of_op (fun c => by simp) ?_
          have f1 : act.tmps[1]?.getD undef = .pointer (some ⟨H, 0, none⟩) := (Kt.val_get act 1).symm.trans (hI.frame.val_out (s := 1) (show 1 ∉ triS by decide))
          have hk := hI.pure_step ok (fun _ hi => (List.not_mem_nil hi).elim) (Nat.le_of_ble_eq_true rfl) hn (j := 0) (s := 20) (v := .pointer (some ⟨X.bc, 0, none⟩)) rfl rfl
          obtain rfl : w2 = WR.drew := hI.before (j := 0) rfl hn
          refine Kt.op_opq hk ?_
          clear hk
          intro KK hkk
          unfold Oper.wp
          go_simp
          exact hkk
        · cases Option.some.inj ho
          refine Kt.opIn_of_op (fun c => by simp) ?_
          have f1 : act.tmps[1]?.getD undef = .pointer (some ⟨H, 0, none⟩) := (Kt.val_get act 1).symm.trans (hI.frame.val_out (s := 1) (show 1 ∉ triS by decide))
          have hk := hI.pure_step ok (fun _ hi => (List.not_mem_nil hi).elim) (Nat.le_of_ble_eq_true rfl) hn (j := 1) (s := 21) (v := .pointer (some ⟨X.bc, 0, none⟩)) rfl rfl
          obtain rfl : w2 = WR.drew := hI.before (j := 1) rfl hn
          refine Kt.op_opq hk ?_
          clear hk
          intro KK hkk
          unfold Oper.wp
          go_simp
          exact hkk
        · cases Option.some.inj ho
          refine Kt.opIn_of_op (fun c => by simp) ?_
          have e1 : act.tmps[21]?.getD undef = .pointer (some ⟨X.bc, 0, none⟩) := (Kt.val_get act 21).symm.trans (hI.pure 1 _ (Nat.le_of_ble_eq_true rfl) rfl (hpre ⟨1, .data⟩ (by simp) rfl))
          have hk := hI.pure_step ok (fun i hi => by have hi := (show i ∈ ([1] : List Nat) from hi); simp only [List.mem_cons, List.not_mem_nil, or_false] at hi; rcases hi with rfl <;> first | exact hpre ⟨1, .data⟩ (by simp) rfl) (Nat.le_of_ble_eq_true rfl) hn (j := 2) (s := 22) (v := .pointer (some ⟨X.bc, 0, none⟩)) rfl rfl
          obtain rfl : w2 = WR.drew := hI.before (j := 2) rfl hn
          refine Kt.op_opq hk ?_
          clear hk
          intro KK hkk
          unfold Oper.wp
          go_simp
          exact hkk
        · cases Option.some.inj ho
          refine Kt.opIn_of_op (fun c => by simp) ?_
          have e2 : act.tmps[22]?.getD undef = .pointer (some ⟨X.bc, 0, none⟩) := (Kt.val_get act 22).symm.trans (hI.pure 2 _ (Nat.le_of_ble_eq_true rfl) rfl (hpre ⟨2, .data⟩ (by simp) rfl))
          have hk := hI.pure_step ok (fun i hi => by have hi := (show i ∈ ([2] : List Nat) from hi); simp only [List.mem_cons, List.not_mem_nil, or_false] at hi; rcases hi with rfl <;> first | exact hpre ⟨2, .data⟩ (by simp) rfl) (Nat.le_of_ble_eq_true rfl) hn (j := 3) (s := 23) (v := .pointer (some ⟨X.bc, 65, none⟩)) rfl rfl
          obtain rfl : w2 = WR.drew := hI.before (j := 3) rfl hn
          refine Kt.op_opq hk ?_
          clear hk
          intro KK hkk
          unfold Oper.wp
          go_simp
          exact hkk
        · cases Option.some.inj ho
          refine Kt.opIn_of_op (fun c => by simp) ?_
          have e3 : act.tmps[23]?.getD undef = .pointer (some ⟨X.bc, 65, none⟩) := (Kt.val_get act 23).symm.trans (hI.pure 3 _ (Nat.le_of_ble_eq_true rfl) rfl (hpre ⟨3, .data⟩ (by simp) rfl))
          have hk := hI.pure_step ok (fun i hi => by have hi := (show i ∈ ([3] : List Nat) from hi); simp only [List.mem_cons, List.not_mem_nil, or_false] at hi; rcases hi with rfl <;> first | exact hpre ⟨3, .data⟩ (by simp) rfl) (Nat.le_of_ble_eq_true rfl) hn (j := 4) (s := 24) (v := (.slice (some ⟨zb, zo, none⟩) G czs)) rfl rfl
          obtain rfl : w2 = WR.drew := hI.before (j := 4) rfl hn
          refine Kt.op_opq hk ?_
          clear hk
          intro KK hkk
          unfold Oper.wp
          go_simp
          exact hkk
        · cases Option.some.inj ho
          refine Kt.opIn_of_op (fun c => by simp) ?_
          have f7 : act.tmps[7]?.getD undef = .pointer (some ⟨rb, 0, none⟩) := (Kt.val_get act 7).symm.trans (hI.frame.val_out (s := 7) (show 7 ∉ triS by decide))
          have hk := hI.pure_step ok (fun _ hi => (List.not_mem_nil hi).elim) (Nat.le_of_ble_eq_true rfl) hn (j := 5) (s := 25) (v := .int .i64 (r : Int)) rfl rfl
          obtain rfl : w2 = WR.drew := hI.before (j := 5) rfl hn
          refine Kt.op_opq hk ?_
          clear hk
          intro KK hkk
          unfold Oper.wp
          go_simp
          exact hkk
        · cases Option.some.inj ho
          refine Kt.opIn_of_op (fun c => by simp) ?_
          have e4 : act.tmps[24]?.getD undef = (.slice (some ⟨zb, zo, none⟩) G czs) := (Kt.val_get act 24).symm.trans (hI.pure 4 _ (Nat.le_of_ble_eq_true rfl) rfl (hpre ⟨4, .data⟩ (by simp) rfl))
          have e5 : act.tmps[25]?.getD undef = .int .i64 (r : Int) := (Kt.val_get act 25).symm.trans (hI.pure 5 _ (Nat.le_of_ble_eq_true rfl) rfl (hpre ⟨5, .data⟩ (by simp) rfl))
          have hk := hI.pure_step ok (fun i hi => by have hi := (show i ∈ ([4, 5] : List Nat) from hi); simp only [List.mem_cons, List.not_mem_nil, or_false] at hi; rcases hi with rfl | rfl <;> first | exact hpre ⟨4, .data⟩ (by simp) rfl | exact hpre ⟨5, .data⟩ (by simp) rfl) (Nat.le_of_ble_eq_true rfl) hn (j := 6) (s := 26) (v := .pointer (some ⟨zb, zo + r, none⟩)) rfl rfl
          obtain rfl : w2 = WR.drew := hI.before (j := 6) rfl hn
          refine Kt.op_opq hk ?_
          clear hk
          intro KK hkk
          unfold Oper.wp
          go_simp
          exact hkk
        · cases Option.some.inj ho
          refine Kt.opIn_of_op (fun c => by simp) ?_
          have e6 : act.tmps[26]?.getD undef = .pointer (some ⟨zb, zo + r, none⟩) := (Kt.val_get act 26).symm.trans (hI.pure 6 _ (Nat.le_of_ble_eq_true rfl) rfl (hpre ⟨6, .data⟩ (by simp) rfl))
          have hk := hI.pure_step ok (fun i hi => by have hi := (show i ∈ ([6] : List Nat) from hi); simp only [List.mem_cons, List.not_mem_nil, or_false] at hi; rcases hi with rfl <;> first | exact hpre ⟨6, .data⟩ (by simp) rfl) (Nat.le_of_ble_eq_true rfl) hn (j := 7) (s := 27) (v := .int .i64 ((X.nb r) : Int)) rfl rfl
          obtain rfl : w2 = WR.drew := hI.before (j := 7) rfl hn
          refine Kt.op_opq hk ?_
          clear hk
          intro KK hkk
          unfold Oper.wp
          go_simp
          exact hkk
        · cases Option.some.inj ho
          refine Kt.opIn_of_op (fun c => by simp) ?_
          have f3 : act.tmps[3]?.getD undef = .pointer (some ⟨H + 2, 0, none⟩) := (Kt.val_get act 3).symm.trans (hI.frame.val_out (s := 3) (show 3 ∉ triS by decide))
          have hk := hI.pure_step ok (fun _ hi => (List.not_mem_nil hi).elim) (Nat.le_of_ble_eq_true rfl) hn (j := 8) (s := 28) (v := .int .i64 (i : Int)) rfl rfl
          obtain rfl : w2 = WR.drew := hI.before (j := 8) rfl hn
          refine Kt.op_opq hk ?_
          clear hk
          intro KK hkk
          unfold Oper.wp
          go_simp
          exact hkk
        · cases Option.some.inj ho
          refine Kt.opIn_of_op (fun c => by simp) ?_
          have f4 : act.tmps[4]?.getD undef = .pointer (some ⟨H + 3, 0, none⟩) := (Kt.val_get act 4).symm.trans (hI.frame.val_out (s := 4) (show 4 ∉ triS by decide))
          have hk := hI.pure_step ok (fun _ hi => (List.not_mem_nil hi).elim) (Nat.le_of_ble_eq_true rfl) hn (j := 9) (s := 29) (v := .int .i64 (j : Int)) rfl rfl
          obtain rfl : w2 = WR.drew := hI.before (j := 9) rfl hn
          refine Kt.op_opq hk ?_
          clear hk
          intro KK hkk
          unfold Oper.wp
          go_simp
          exact hkk
        · cases Option.some.inj ho
          refine Kt.opIn_of_op (fun c => by simp) ?_
          have e0 : act.tmps[20]?.getD undef = .pointer (some ⟨X.bc, 0, none⟩) := (Kt.val_get act 20).symm.trans (hI.pure 0 _ (Nat.le_of_ble_eq_true rfl) rfl (hpre ⟨0, .data⟩ (by simp) rfl))
          have e7 : act.tmps[27]?.getD undef = .int .i64 ((X.nb r) : Int) := (Kt.val_get act 27).symm.trans (hI.pure 7 _ (Nat.le_of_ble_eq_true rfl) rfl (hpre ⟨7, .data⟩ (by simp) rfl))
          have e8 : act.tmps[28]?.getD undef = .int .i64 (i : Int) := (Kt.val_get act 28).symm.trans (hI.pure 8 _ (Nat.le_of_ble_eq_true rfl) rfl (hpre ⟨8, .data⟩ (by simp) rfl))
          have e9 : act.tmps[29]?.getD undef = .int .i64 (j : Int) := (Kt.val_get act 29).symm.trans (hI.pure 9 _ (Nat.le_of_ble_eq_true rfl) rfl (hpre ⟨9, .data⟩ (by simp) rfl))
          obtain rfl : w2 = WR.drew := hI.world (Kt.getD_no hn)
          have hcs := fun r w3 hR => hI.call_step (r := r) (w' := w3) (s := 30) ok (j := 10) (fun i hi => by have hi := (show i ∈ ([0, 7, 8, 9] : List Nat) from hi); simp only [List.mem_cons, List.not_mem_nil, or_false] at hi; rcases hi with rfl | rfl | rfl | rfl <;> first | exact hpre ⟨0, .data⟩ (by simp) rfl | exact hpre ⟨7, .data⟩ (by simp) rfl | exact hpre ⟨8, .data⟩ (by simp) rfl | exact hpre ⟨9, .data⟩ (by simp) rfl) rfl hn rfl (fun i hi => by rcases i with _ | _ | _ | _ | _ | _ | _ | _ | _ | _ | _ | _ | _ | i; exact hpre ⟨0, .data⟩ (by simp) rfl; exact hI.cl 2 1 (hI.cl 3 2 (hI.cl 4 3 (hI.cl 6 4 (hI.cl 7 6 (hpre ⟨7, .data⟩ (by simp) rfl) (show 6 ∈ ([6] : List Nat) by simp)) (show 4 ∈ ([4, 5] : List Nat) by simp)) (show 3 ∈ ([3] : List Nat) by simp)) (show 2 ∈ ([2] : List Nat) by simp)) (show 1 ∈ ([1] : List Nat) by simp); exact hI.cl 3 2 (hI.cl 4 3 (hI.cl 6 4 (hI.cl 7 6 (hpre ⟨7, .data⟩ (by simp) rfl) (show 6 ∈ ([6] : List Nat) by simp)) (show 4 ∈ ([4, 5] : List Nat) by simp)) (show 3 ∈ ([3] : List Nat) by simp)) (show 2 ∈ ([2] : List Nat) by simp); exact hI.cl 4 3 (hI.cl 6 4 (hI.cl 7 6 (hpre ⟨7, .data⟩ (by simp) rfl) (show 6 ∈ ([6] : List Nat) by simp)) (show 4 ∈ ([4, 5] : List Nat) by simp)) (show 3 ∈ ([3] : List Nat) by simp); exact hI.cl 6 4 (hI.cl 7 6 (hpre ⟨7, .data⟩ (by simp) rfl) (show 6 ∈ ([6] : List Nat) by simp)) (show 4 ∈ ([4, 5] : List Nat) by simp); exact hI.cl 6 5 (hI.cl 7 6 (hpre ⟨7, .data⟩ (by simp) rfl) (show 6 ∈ ([6] : List Nat) by simp)) (show 5 ∈ ([4, 5] : List Nat) by simp); exact hI.cl 7 6 (hpre ⟨7, .data⟩ (by simp) rfl) (show 6 ∈ ([6] : List Nat) by simp); exact hpre ⟨7, .data⟩ (by simp) rfl; exact hpre ⟨8, .data⟩ (by simp) rfl; exact hpre ⟨9, .data⟩ (by simp) rfl; exact absurd (show false = true from hi) (by decide); exact absurd (show false = true from hi) (by decide); exact absurd (show false = true from hi) (by decide); exact absurd (show false = true from hi) (by decide)) hR
          revert hcs
          generalize hGG : (fun a' w' => Kt.RcI _ (listed.setIfInBounds 10 true) a' w') = GG
          intro hcs
          replace hcs : ∀ r w3, _ → GG (act.put (some 30) r) w3 := fun r w3 hR => by rw [← hGG]; exact hcs r w3 hR
          clear hGG
          unfold Oper.wp
          go_simp
          refine HREST.out.mono ?_
          rintro e w3 ⟨hch3, hm3, v, rfl, hv⟩
          exact hcs v w3 ⟨hch3, hm3, hv⟩
        · cases Option.some.inj ho
          refine Kt.opIn_of_op (fun c => by simp) ?_
          have hlm : listed.getD 10 false = true := hpre ⟨10, .data⟩ (by simp) rfl
          obtain ⟨r, hR, hr, hpo⟩ := hI.res hlm
          obtain ⟨hR1, hR2, Ar, cr, hre, hR3⟩ := hR
          subst hre
          have em : act.tmps[30]?.getD undef = .slice Ar _ cr := (Kt.val_get act 30).symm.trans hr
          have hk := hI.post_step ok (j := 11) (s := 31) (u := .int .i64 _) (fun i hi => by have hi := (show i ∈ ([10] : List Nat) from hi); simp only [List.mem_cons, List.not_mem_nil, or_false] at hi; rcases hi with rfl <;> first | exact hpre ⟨10, .data⟩ (by simp) rfl) (Nat.le_of_ble_eq_true rfl) hlm hr rfl rfl
          refine Kt.op_opq hk ?_
          clear hk
          intro KK hkk
          unfold Oper.wp
          go_simp
          exact hkk
        · cases Option.some.inj ho
          refine Kt.opIn_of_op (fun c => by simp) ?_
          have hlm : listed.getD 10 false = true := hI.postm rfl (hpre ⟨11, .data⟩ (by simp) rfl)
          obtain ⟨r, hR, hr, hpo⟩ := hI.res hlm
          obtain ⟨hR1, hR2, Ar, cr, hre, hR3⟩ := hR
          subst hre
          have em : act.tmps[30]?.getD undef = .slice Ar _ cr := (Kt.val_get act 30).symm.trans hr
          have ep11 : act.tmps[31]?.getD undef = .int .i64 _ := (Kt.val_get act 31).symm.trans (hpo 11 _ (Nat.le_of_ble_eq_true rfl) rfl (hpre ⟨11, .data⟩ (by simp) rfl))
          have hk := hI.post_step ok (j := 12) (s := 32) (u := .bool _) (fun i hi => by have hi := (show i ∈ ([11] : List Nat) from hi); simp only [List.mem_cons, List.not_mem_nil, or_false] at hi; rcases hi with rfl <;> first | exact hpre ⟨11, .data⟩ (by simp) rfl) (Nat.le_of_ble_eq_true rfl) hlm hr rfl rfl
          refine Kt.op_opq hk ?_
          clear hk
          intro KK hkk
          unfold Oper.wp
          go_simp
          exact hkk
        · exfalso; simp at ho
      case hdone =>
        intro listed act w2 hI hr
        have hup := Kt.all_up (fun q o ho => by
          rcases q with _ | _ | _ | _ | _ | _ | _ | _ | _ | _ | _ | _ | _ | q
          all_goals first | (cases Option.some.inj ho; decide) | (exfalso; simp at ho)) hI.size hr
        obtain ⟨rv, ⟨hch3, hm3, hv3⟩, hrv, hpo⟩ := hI.res (hup 10 (by decide))
        obtain ⟨wz, hwz⟩ : ∃ wz, Hid (Gr.ways X.g (hitf X.tk) N (Gr.rul X.g r).right i j = wz) := ⟨_, Lib.hid rfl⟩
        rw [hwz.out] at hv3
        obtain ⟨Ar, cr', hre, _⟩ := hv3
        obtain ⟨LN, hLN⟩ : ∃ LN, Hid ((Nt.limbs wz).length = LN) := ⟨_, Lib.hid rfl⟩
        rw [hLN.out] at hre
        subst hre
        have hv32 : Kt.val act 32 = .bool ((LN : Int) == 0) := hpo 12 _ (Nat.le_of_ble_eq_true rfl) rfl (hup 12 (by decide))
        rw [hI.frame.out]
        simp only [triP, triS, Kt.sets]
        generalize Kt.val act 20 = v20
        generalize Kt.val act 21 = v21
        generalize Kt.val act 22 = v22
        generalize Kt.val act 23 = v23
        generalize Kt.val act 24 = v24
        generalize Kt.val act 25 = v25
        generalize Kt.val act 26 = v26
        generalize Kt.val act 27 = v27
        generalize Kt.val act 28 = v28
        generalize Kt.val act 29 = v29
        generalize Kt.val act 30 = v30
        generalize Kt.val act 31 = v31
        generalize Kt.val act 32 = v32 at hv32 ⊢
        simp only [List.setIfInBounds_toArray, List.set_cons_zero, List.set_cons_succ]
        clear hI hr hup hrv hpo
        subst hv32
        rename World => w3
        have hchw3 : Ch0 X w w3 := Kt.Ch.trans hchR (Kt.Ch.trans (Ch.drew (Kt.Ch.refl WR)) hch3 (fun _ e => .inl e)) (fun _ e => .inl e)
        have hst3 : Kt.St W.heap.size X.b1 X.b2 M' w w3 := ⟨hchw3.ext, fun q hq _ h1 h2 => hchw3.same q hq (fun e => e) h1 h2⟩
        have HJ3 := Lib.hid (HJ.out _ _ _ _ hJ hst3)
        have HM3 := Lib.hid hm3
        have HC3 : Hid (Kt.Ch X.b1 X.b2 M W w3) := Lib.hid (Kt.Ch.trans hch hchw3 (fun _ e => e.elim))
        have HS3 : Hid (Kt.Sub M W M' w3) := Lib.hid ⟨hsub.old, fun q hq => Nat.lt_of_lt_of_le (hsub.lt q hq) hchw3.ext.size⟩
        have hy3 : w3.cell? ⟨yb, 0, none⟩ = some (.func (.yield l) #[] #[]) := (World.cell?_of_block (a := ⟨yb, 0, none⟩) (hchw3.same yb hyl (fun e => e) nd1 nd2)).trans hyc
        have hyl3 : yb < w3.heap.size := Nat.lt_of_lt_of_le hyl hchw3.ext.size
        have HK3 := Lib.hid (hmk.ch hchw3)
        have hch3' : Ch0 X WR w3 := Kt.Ch.trans (Ch.drew (Kt.Ch.refl WR)) hch3 (fun _ e => .inl e)
        clear hst3 hJ hM hch3 hm3 hM2 hch2 hyM hyb3 hJ2 hst2
        by_cases hz : LN = 0
        · have hzb : ((LN : Int) == 0) = true := by simp [hz]
          have hw0 : wz = 0 := (Nt.len_zero_iff wz).1 (by rw [hLN.out]; exact hz)
          have hnil : Gr.parts (hitf X.tk) (Gr.D X.g (hitf X.tk) N) (Gr.rul X.g r).right i j = [] := List.eq_nil_of_length_eq_zero (by
            have := hwz.out
            unfold Gr.ways at this
            rw [this]; exact hw0)
          have HJ4 : Hid (J (doneR X N s i j (k + 1)) M' w3) := Lib.hid (by
            rw [doneR_succ hrk.out, hnil, List.map_nil, List.append_nil]
            exact HJ3.out)
          rw [hzb]
          clear hz hnil
          gi_wp2_with fail
          exact ⟨⟨k + 1, _, _, _, _, _, _, _, _, _, _, _, _, _, _, _, _, _, _, _, _, _, _, _, _, _, _, _, _, _, _, _, _, _, _, _, _, _, _, _, _, ds, M', by omega, rfl, Lib.hid ⟨HJ4.out, HM3.out, HC3.out, HS3.out, hyM', hy3, hyl3, HK3.out⟩⟩, by simp [intOf]; omega⟩
        · have hzb : ((LN : Int) == 0) = false := by simp; omega
          rw [hzb]
          have hwp : 0 < Gr.ways X.g (hitf X.tk) N (Gr.rul X.g r).right i j := by
            rw [hwz.out]
            rcases Nat.eq_zero_or_pos wz with e | e
            · exfalso
              apply hz
              rw [← hLN.out, e]
              exact (Nt.len_zero_iff 0).2 rfl
            · exact e
          have HIT := Lib.hid (HIH.out r hrm hwp)
          have hC3 : Cht X w3 := hCw.on hchw3
          have hc3 : ∀ a o v, a < WR.heap.size → a ≠ X.b1 → a ≠ X.b2 → WR.cell? ⟨a, o, none⟩ = some v → w3.cell? ⟨a, o, none⟩ = some v := fun a o v h1 h2 h3 h => (World.cell?_of_block (a := ⟨a, o, none⟩) (by
            have hq := hch3'.same a h1 (fun e => e) h2 h3
            exact hq)).trans h
          have hwrs : w.heap.size < WR.heap.size := by rw [hrb]; exact hrbl.lt
          have y0 := hc3 _ _ _ (by omega) (by have := hH 0 (by omega); omega) (by have := hH 0 (by omega); omega) x0
          have y2 := hc3 _ _ _ (by omega) (by have := hH 2 (by omega); omega) (by have := hH 2 (by omega); omega) x2
          have y3 := hc3 _ _ _ (by omega) (by have := hH 3 (by omega); omega) (by have := hH 3 (by omega); omega) x3
          have hnw := hnew rb (by omega)
          have yr := hc3 rb 0 _ hrbl.lt hnw.1 hnw.2 xr
          have yg := hc3 _ _ _ (by omega) (hCW.ne1 _ hCW.kbc) (hCW.ne2 _ hCW.kbc) xg
          have yz := hc3 _ _ _ (by omega) (hCw.ne1 _ hkz) (hCw.ne2 _ hkz) xz
          have hnbE : X.nb r < X.E.length := (HE.out.nbE r hrg).lt HE.out.eok
          have HMK := Lib.hid (parts_mk X (X.nb r) i j w3.drew (hC3.on (Ch.drew (Kt.Ch.refl w3))) hnbE)
          have hrb3 : rb < w3.heap.size := Nat.lt_of_lt_of_le hrbl.lt hch3'.ext.size
          clear x0 x2 x3 xr xg xz hc3 hcell9 hcell hcellz b0 b2 b3 hbx
          gi_wp2_with fail
          refine Kt.region_invIn (Kt.RcI (trjP _ w3 X.bc r (X.nb r) zb zo i j (.slice (some ⟨zb, zo, none⟩) G czs) (fun v w4 => v = .func (.func 73) #[] #[.pointer (some ⟨w3.heap.size + 3, 0, none⟩), .pointer (some ⟨w3.heap.size, 0, none⟩), .pointer (some ⟨w3.heap.size + 1, 0, none⟩), .pointer (some ⟨w3.heap.size + 2, 0, none⟩)] ∧ Below w3.heap.size w3.drew w4 ∧ PBox X (X.nb r) i j w3.heap.size w4 ∧ w4.heap.size = w3.heap.size + 4))) (by kernel_rfl) ?hg Kt.RcI.start ?hstep ?hdone
          case hg =>
            intro q o ho
            rcases q with _ | _ | _ | _ | _ | _ | _ | _ | _ | _ | _ | q
            all_goals first | (cases Option.some.inj ho; rfl) | (exfalso; simp at ho)
          case hstep =>
            intro listed act w2 q o hI ho hn hpre
            have ok := trj_ok hI (Nat.le_of_ble_eq_true rfl)
            rcases q with _ | _ | _ | _ | _ | _ | _ | _ | _ | _ | _ | q
            · cases Option.some.inj ho
              refine Kt.opIn_of_op (fun c => by simp) ?_
              have f1 : act.tmps[1]?.getD undef = .pointer (some ⟨H, 0, none⟩) := (Kt.val_get act 1).symm.trans (hI.frame.val_out (s := 1) (show 1 ∉ trjS by decide))
              have hk := hI.pure_step ok (fun _ hi => (List.not_mem_nil hi).elim) (Nat.le_of_ble_eq_true rfl) hn (j := 0) (s := 33) (v := .pointer (some ⟨X.bc, 0, none⟩)) rfl rfl
              obtain rfl : w2 = w3.drew := hI.before (j := 0) rfl hn
              refine Kt.op_opq hk ?_
              clear hk
              intro KK hkk
              unfold Oper.wp
              go_simp
              exact hkk
            · cases Option.some.inj ho
              refine Kt.opIn_of_op (fun c => by simp) ?_
              have f1 : act.tmps[1]?.getD undef = .pointer (some ⟨H, 0, none⟩) := (Kt.val_get act 1).symm.trans (hI.frame.val_out (s := 1) (show 1 ∉ trjS by decide))
              have hk := hI.pure_step ok (fun _ hi => (List.not_mem_nil hi).elim) (Nat.le_of_ble_eq_true rfl) hn (j := 1) (s := 34) (v := .pointer (some ⟨X.bc, 0, none⟩)) rfl rfl
              obtain rfl : w2 = w3.drew := hI.before (j := 1) rfl hn
              refine Kt.op_opq hk ?_
              clear hk
              intro KK hkk
              unfold Oper.wp
              go_simp
              exact hkk
            · cases Option.some.inj ho
              refine Kt.opIn_of_op (fun c => by simp) ?_
              have e1 : act.tmps[34]?.getD undef = .pointer (some ⟨X.bc, 0, none⟩) := (Kt.val_get act 34).symm.trans (hI.pure 1 _ (Nat.le_of_ble_eq_true rfl) rfl (hpre ⟨1, .data⟩ (by simp) rfl))
              have hk := hI.pure_step ok (fun i hi => by have hi := (show i ∈ ([1] : List Nat) from hi); simp only [List.mem_cons, List.not_mem_nil, or_false] at hi; rcases hi with rfl <;> first | exact hpre ⟨1, .data⟩ (by simp) rfl) (Nat.le_of_ble_eq_true rfl) hn (j := 2) (s := 35) (v := .pointer (some ⟨X.bc, 0, none⟩)) rfl rfl
              obtain rfl : w2 = w3.drew := hI.before (j := 2) rfl hn
              refine Kt.op_opq hk ?_
              clear hk
              intro KK hkk
              unfold Oper.wp
              go_simp
              exact hkk
            · cases Option.some.inj ho
              refine Kt.opIn_of_op (fun c => by simp) ?_
              have e2 : act.tmps[35]?.getD undef = .pointer (some ⟨X.bc, 0, none⟩) := (Kt.val_get act 35).symm.trans (hI.pure 2 _ (Nat.le_of_ble_eq_true rfl) rfl (hpre ⟨2, .data⟩ (by simp) rfl))
              have hk := hI.pure_step ok (fun i hi => by have hi := (show i ∈ ([2] : List Nat) from hi); simp only [List.mem_cons, List.not_mem_nil, or_false] at hi; rcases hi with rfl <;> first | exact hpre ⟨2, .data⟩ (by simp) rfl) (Nat.le_of_ble_eq_true rfl) hn (j := 3) (s := 36) (v := .pointer (some ⟨X.bc, 65, none⟩)) rfl rfl
              obtain rfl : w2 = w3.drew := hI.before (j := 3) rfl hn
              refine Kt.op_opq hk ?_
              clear hk
              intro KK hkk
              unfold Oper.wp
              go_simp
              exact hkk
            · cases Option.some.inj ho
              refine Kt.opIn_of_op (fun c => by simp) ?_
              have e3 : act.tmps[36]?.getD undef = .pointer (some ⟨X.bc, 65, none⟩) := (Kt.val_get act 36).symm.trans (hI.pure 3 _ (Nat.le_of_ble_eq_true rfl) rfl (hpre ⟨3, .data⟩ (by simp) rfl))
              have hk := hI.pure_step ok (fun i hi => by have hi := (show i ∈ ([3] : List Nat) from hi); simp only [List.mem_cons, List.not_mem_nil, or_false] at hi; rcases hi with rfl <;> first | exact hpre ⟨3, .data⟩ (by simp) rfl) (Nat.le_of_ble_eq_true rfl) hn (j := 4) (s := 37) (v := (.slice (some ⟨zb, zo, none⟩) G czs)) rfl rfl
              obtain rfl : w2 = w3.drew := hI.before (j := 4) rfl hn
              refine Kt.op_opq hk ?_
              clear hk
              intro KK hkk
              unfold Oper.wp
              go_simp
              exact hkk
            · cases Option.some.inj ho
              refine Kt.opIn_of_op (fun c => by simp) ?_
              have f7 : act.tmps[7]?.getD undef = .pointer (some ⟨rb, 0, none⟩) := (Kt.val_get act 7).symm.trans (hI.frame.val_out (s := 7) (show 7 ∉ trjS by decide))
              have hk := hI.pure_step ok (fun _ hi => (List.not_mem_nil hi).elim) (Nat.le_of_ble_eq_true rfl) hn (j := 5) (s := 38) (v := .int .i64 (r : Int)) rfl rfl
              obtain rfl : w2 = w3.drew := hI.before (j := 5) rfl hn
              refine Kt.op_opq hk ?_
              clear hk
              intro KK hkk
              unfold Oper.wp
              go_simp
              exact hkk
            · cases Option.some.inj ho
              refine Kt.opIn_of_op (fun c => by simp) ?_
              have e4 : act.tmps[37]?.getD undef = (.slice (some ⟨zb, zo, none⟩) G czs) := (Kt.val_get act 37).symm.trans (hI.pure 4 _ (Nat.le_of_ble_eq_true rfl) rfl (hpre ⟨4, .data⟩ (by simp) rfl))
              have e5 : act.tmps[38]?.getD undef = .int .i64 (r : Int) := (Kt.val_get act 38).symm.trans (hI.pure 5 _ (Nat.le_of_ble_eq_true rfl) rfl (hpre ⟨5, .data⟩ (by simp) rfl))
              have hk := hI.pure_step ok (fun i hi => by have hi := (show i ∈ ([4, 5] : List Nat) from hi); simp only [List.mem_cons, List.not_mem_nil, or_false] at hi; rcases hi with rfl | rfl <;> first | exact hpre ⟨4, .data⟩ (by simp) rfl | exact hpre ⟨5, .data⟩ (by simp) rfl) (Nat.le_of_ble_eq_true rfl) hn (j := 6) (s := 39) (v := .pointer (some ⟨zb, zo + r, none⟩)) rfl rfl
              obtain rfl : w2 = w3.drew := hI.before (j := 6) rfl hn
              refine Kt.op_opq hk ?_
              clear hk
              intro KK hkk
              unfold Oper.wp
              go_simp
              exact hkk
            · cases Option.some.inj ho
              refine Kt.opIn_of_op (fun c => by simp) ?_
              have e6 : act.tmps[39]?.getD undef = .pointer (some ⟨zb, zo + r, none⟩) := (Kt.val_get act 39).symm.trans (hI.pure 6 _ (Nat.le_of_ble_eq_true rfl) rfl (hpre ⟨6, .data⟩ (by simp) rfl))
              have hk := hI.pure_step ok (fun i hi => by have hi := (show i ∈ ([6] : List Nat) from hi); simp only [List.mem_cons, List.not_mem_nil, or_false] at hi; rcases hi with rfl <;> first | exact hpre ⟨6, .data⟩ (by simp) rfl) (Nat.le_of_ble_eq_true rfl) hn (j := 7) (s := 40) (v := .int .i64 ((X.nb r) : Int)) rfl rfl
              obtain rfl : w2 = w3.drew := hI.before (j := 7) rfl hn
              refine Kt.op_opq hk ?_
              clear hk
              intro KK hkk
              unfold Oper.wp
              go_simp
              exact hkk
            · cases Option.some.inj ho
              refine Kt.opIn_of_op (fun c => by simp) ?_
              have f3 : act.tmps[3]?.getD undef = .pointer (some ⟨H + 2, 0, none⟩) := (Kt.val_get act 3).symm.trans (hI.frame.val_out (s := 3) (show 3 ∉ trjS by decide))
              have hk := hI.pure_step ok (fun _ hi => (List.not_mem_nil hi).elim) (Nat.le_of_ble_eq_true rfl) hn (j := 8) (s := 41) (v := .int .i64 (i : Int)) rfl rfl
              obtain rfl : w2 = w3.drew := hI.before (j := 8) rfl hn
              refine Kt.op_opq hk ?_
              clear hk
              intro KK hkk
              unfold Oper.wp
              go_simp
              exact hkk
            · cases Option.some.inj ho
              refine Kt.opIn_of_op (fun c => by simp) ?_
              have f4 : act.tmps[4]?.getD undef = .pointer (some ⟨H + 3, 0, none⟩) := (Kt.val_get act 4).symm.trans (hI.frame.val_out (s := 4) (show 4 ∉ trjS by decide))
              have hk := hI.pure_step ok (fun _ hi => (List.not_mem_nil hi).elim) (Nat.le_of_ble_eq_true rfl) hn (j := 9) (s := 42) (v := .int .i64 (j : Int)) rfl rfl
              obtain rfl : w2 = w3.drew := hI.before (j := 9) rfl hn
              refine Kt.op_opq hk ?_
              clear hk
              intro KK hkk
              unfold Oper.wp
              go_simp
              exact hkk
            · cases Option.some.inj ho
              refine Kt.opIn_of_op (fun c => by simp) ?_
              have e0 : act.tmps[33]?.getD undef = .pointer (some ⟨X.bc, 0, none⟩) := (Kt.val_get act 33).symm.trans (hI.pure 0 _ (Nat.le_of_ble_eq_true rfl) rfl (hpre ⟨0, .data⟩ (by simp) rfl))
              have e7 : act.tmps[40]?.getD undef = .int .i64 ((X.nb r) : Int) := (Kt.val_get act 40).symm.trans (hI.pure 7 _ (Nat.le_of_ble_eq_true rfl) rfl (hpre ⟨7, .data⟩ (by simp) rfl))
              have e8 : act.tmps[41]?.getD undef = .int .i64 (i : Int) := (Kt.val_get act 41).symm.trans (hI.pure 8 _ (Nat.le_of_ble_eq_true rfl) rfl (hpre ⟨8, .data⟩ (by simp) rfl))
              have e9 : act.tmps[42]?.getD undef = .int .i64 (j : Int) := (Kt.val_get act 42).symm.trans (hI.pure 9 _ (Nat.le_of_ble_eq_true rfl) rfl (hpre ⟨9, .data⟩ (by simp) rfl))
              obtain rfl : w2 = w3.drew := hI.world (Kt.getD_no hn)
              have hcs := fun r w3 hR => hI.call_step (r := r) (w' := w3) (s := 43) ok (j := 10) (fun i hi => by have hi := (show i ∈ ([0, 7, 8, 9] : List Nat) from hi); simp only [List.mem_cons, List.not_mem_nil, or_false] at hi; rcases hi with rfl | rfl | rfl | rfl <;> first | exact hpre ⟨0, .data⟩ (by simp) rfl | exact hpre ⟨7, .data⟩ (by simp) rfl | exact hpre ⟨8, .data⟩ (by simp) rfl | exact hpre ⟨9, .data⟩ (by simp) rfl) rfl hn rfl (fun i hi => by rcases i with _ | _ | _ | _ | _ | _ | _ | _ | _ | _ | _ | i; exact hpre ⟨0, .data⟩ (by simp) rfl; exact hI.cl 2 1 (hI.cl 3 2 (hI.cl 4 3 (hI.cl 6 4 (hI.cl 7 6 (hpre ⟨7, .data⟩ (by simp) rfl) (show 6 ∈ ([6] : List Nat) by simp)) (show 4 ∈ ([4, 5] : List Nat) by simp)) (show 3 ∈ ([3] : List Nat) by simp)) (show 2 ∈ ([2] : List Nat) by simp)) (show 1 ∈ ([1] : List Nat) by simp); exact hI.cl 3 2 (hI.cl 4 3 (hI.cl 6 4 (hI.cl 7 6 (hpre ⟨7, .data⟩ (by simp) rfl) (show 6 ∈ ([6] : List Nat) by simp)) (show 4 ∈ ([4, 5] : List Nat) by simp)) (show 3 ∈ ([3] : List Nat) by simp)) (show 2 ∈ ([2] : List Nat) by simp); exact hI.cl 4 3 (hI.cl 6 4 (hI.cl 7 6 (hpre ⟨7, .data⟩ (by simp) rfl) (show 6 ∈ ([6] : List Nat) by simp)) (show 4 ∈ ([4, 5] : List Nat) by simp)) (show 3 ∈ ([3] : List Nat) by simp); exact hI.cl 6 4 (hI.cl 7 6 (hpre ⟨7, .data⟩ (by simp) rfl) (show 6 ∈ ([6] : List Nat) by simp)) (show 4 ∈ ([4, 5] : List Nat) by simp); exact hI.cl 6 5 (hI.cl 7 6 (hpre ⟨7, .data⟩ (by simp) rfl) (show 6 ∈ ([6] : List Nat) by simp)) (show 5 ∈ ([4, 5] : List Nat) by simp); exact hI.cl 7 6 (hpre ⟨7, .data⟩ (by simp) rfl) (show 6 ∈ ([6] : List Nat) by simp); exact hpre ⟨7, .data⟩ (by simp) rfl; exact hpre ⟨8, .data⟩ (by simp) rfl; exact hpre ⟨9, .data⟩ (by simp) rfl; exact absurd (show false = true from hi) (by decide); exact absurd (show false = true from hi) (by decide)) hR
              revert hcs
              generalize hGG : (fun a' w' => Kt.RcI _ (listed.setIfInBounds 10 true) a' w') = GG
              intro hcs
              replace hcs : ∀ r w3, _ → GG (act.put (some 43) r) w3 := fun r w3 hR => by rw [← hGG]; exact hcs r w3 hR
              clear hGG
              unfold Oper.wp
              go_simp
              refine HMK.out.mono ?_
              rintro e w3 ⟨rfl, hb3, hp3, hs3⟩
              exact hcs _ w3 ⟨rfl, hb3, hp3, hs3⟩
            · exfalso; simp at ho
          case hdone =>
            intro listed act w2 hI hr
            have hup := Kt.all_up (fun q o ho => by
              rcases q with _ | _ | _ | _ | _ | _ | _ | _ | _ | _ | _ | q
              all_goals first | (cases Option.some.inj ho; decide) | (exfalso; simp at ho)) hI.size hr
            obtain ⟨rv, ⟨hrv, hb4, hpb, hs4⟩, hv43, _⟩ := hI.res (hup 10 (by decide))
            replace hv43 : Kt.val act 43 = rv := hv43
            rw [hrv] at hv43
            rw [hI.frame.out]
            simp only [trjP, trjS, Kt.sets]
            generalize Kt.val act 33 = v33
            generalize Kt.val act 34 = v34
            generalize Kt.val act 35 = v35
            generalize Kt.val act 36 = v36
            generalize Kt.val act 37 = v37
            generalize Kt.val act 38 = v38
            generalize Kt.val act 39 = v39
            generalize Kt.val act 40 = v40
            generalize Kt.val act 41 = v41
            generalize Kt.val act 42 = v42
            generalize Kt.val act 43 = v43 at hv43 ⊢
            simp only [List.setIfInBounds_toArray, List.set_cons_zero, List.set_cons_succ]
            clear hI hr hup
            subst hv43
            rename World => w4
            have hb4' : Below w3.heap.size w3 w4 := ⟨hb4.os, hb4.tape, hb4.output, hb4.size, hb4.block⟩
            have hch4 : Ch0 X w3 w4 := Ch0.of_below hb4'
            have hst4 : Kt.St W.heap.size X.b1 X.b2 M' w3 w4 := ⟨hch4.ext, fun q hq _ h1 h2 => hch4.same q hq (fun e => e) h1 h2⟩
            have HJ4 := HJ.out _ _ _ _ HJ3.out hst4
            have HM4 := HM3.out.below hb4'
            have HC4 : Hid (Kt.Ch X.b1 X.b2 M W w4) := Lib.hid (Kt.Ch.trans HC3.out hch4 (fun _ e => e.elim))
            have HS4 : Hid (Kt.Sub M W M' w4) := Lib.hid ⟨HS3.out.old, fun q hq => Nat.lt_of_lt_of_le (HS3.out.lt q hq) hch4.ext.size⟩
            have hC4 : Cht X w4 := hC3.on hch4
            have HK4 := Lib.hid (HK3.out.ch hch4)
            have hy4 : w4.cell? ⟨yb, 0, none⟩ = some (.func (.yield l) #[] #[]) := (hb4'.cell (p := ⟨yb, 0, none⟩) hyl3).trans hy3
            have hyr4 : w4.cell? ⟨rb, 0, none⟩ = some (.int .i64 (r : Int)) := (hb4'.cell (p := ⟨rb, 0, none⟩) hrb3).trans yr
            have hH2 := hH 2 (by omega)
            have hH3 := hH 3 (by omega)
            have hy42 : w4.cell? ⟨H + 2, 0, none⟩ = some (.int .i64 (i : Int)) := (hb4'.cell (p := ⟨H + 2, 0, none⟩) (by show H + 2 < _; omega)).trans y2
            have hy43 : w4.cell? ⟨H + 3, 0, none⟩ = some (.int .i64 (j : Int)) := (hb4'.cell (p := ⟨H + 3, 0, none⟩) (by show H + 3 < _; omega)).trans y3
            have hW3 := HC3.out.ext.size
            have hW4 := HC4.out.ext.size
            have hMK : ∀ q, X.Kn q ∨ H ≤ q ∧ q < H + 4 → ¬ M' q := fun q hq e => by
              rcases hsub.old q e with e | e
              · exact hKM q hq e
              · rcases hq with hq | hq
                · have := hCW.lt q hq; omega
                · omega
            have hrM : ¬ M' rb := fun e => by have := hsub.lt rb e; omega
            have HITR := HIT.out w3.heap.size w4 hC4 hpb (fun q hq => ⟨(hnew _ (by omega)).1, (hnew _ (by omega)).2, by omega⟩)
            have hbb1 : X.b1 < w4.heap.size := up_lt HM4 HS4.out.lt X.b1 (.inr (.inl rfl))
            have hbb2 : X.b2 < w4.heap.size := up_lt HM4 HS4.out.lt X.b2 (.inr (.inr rfl))
            gi_wp2_with fail
            refine Kt.range_outer (B := W.heap.size) (b1 := X.b1) (b2 := X.b2) (M0 := M') (w0 := w4) rfl rfl rfl trivial (enters_of Try.func73 (by kernel_rfl) rfl) HITR hbb1 hbb2 hW4 (Nat.le_refl _) HS4.out.lt
              (fun q hq => ⟨by
                rcases hq with hq | hq
                · exact hC4.lt q hq
                · omega, by
                rcases hq with hq | hq
                · exact hMK q (.inl hq)
                · intro e; have := HS3.out.lt q e; omega, rfl⟩) HM4 (fun M W W' h hk => h.inS hk) (fun M W l r h hl => h.loop hl) (fun M M' W h hM => h.less hM)
              (fun pre M w => J (doneR X N s i j k ++ pre.map (Gr.Tr.node r i j)) M w) (fun c pre M w => c = .ret ∧ Jx (doneR X N s i j k ++ pre.map (Gr.Tr.node r i j)) M w)
              (fun pre M W1 W2 h1 h2 => HJ.out _ _ _ _ h1 h2) (fun c pre M W1 W2 h1 h2 => ⟨h1.1, HJX.out _ _ _ _ h1.2 h2⟩) (by rw [List.map_nil, List.append_nil]; exact HJ4) ?hround ?hd ?hs
            case hround =>
              intro l2 pre x v M1 W1 hl2 hI1 hInv1 hCh1 hSub1 hMl hrec hpre henc
              refine ⟨fun a' W' => (∃ (u6 u17 u18 u19 u20 u21 u22 u23 u24 u25 u26 u27 u28 u29 u30 u31 u32 u33 u34 u35 u36 u37 u38 u39 u40 u41 u42 u43 u44 u45 u46 u47 u48 u49 u50 u51 u52 u53 : Value), a' = triFr l H X.bc yb s (.slice (some ⟨b, off, none⟩) L c) L k u6 (.pointer (some ⟨rb, 0, none⟩)) v u17 u18 u19 u20 u21 u22 u23 u24 u25 u26 u27 u28 u29 u30 u31 u32 u33 u34 u35 u36 u37 u38 u39 u40 u41 u42 u43 u44 u45 u46 u47 u48 u49 u50 u51 u52 u53 []) ∧ W' = W1, ?_, ?_⟩
              · intro K hK
                change Code.wpIn (Kt.Wd (some l2)) _ _ _ _ _ _
                gi_wp2
                exact hK _ _ (Kt.Ext.refl _) (fun _ _ => rfl) ⟨⟨_, _, _, _, _, _, _, _, _, _, _, _, _, _, _, _, _, _, _, _, _, _, _, _, _, _, _, _, _, _, _, _, _, _, _, _, _, _, rfl⟩, rfl⟩
              · rintro a' Wa Wb ⟨⟨u6, u17, u18, u19, u20, u21, u22, u23, u24, u25, u26, u27, u28, u29, u30, u31, u32, u33, u34, u35, u36, u37, u38, u39, u40, u41, u42, u43, u44, u45, u46, u47, u48, u49, u50, u51, u52, u53, rfl⟩, rfl⟩ hext hszb hsame hrec2 hle
                have henc2 := henc
                obtain ⟨Av, cv, _, _, _, hve, _⟩ := henc2
                have hwa := hCh1.ext.size
                have hk1 : ∀ q, q < w4.heap.size → ¬ M' q → q ≠ X.b1 → q ≠ X.b2 → Wb.heap[q]? = w4.heap[q]? := fun q hq hn h1 h2 => (hsame q (by omega)).trans (hCh1.same q hq hn h1 h2)
                have z1 : Wb.cell? ⟨yb, 0, none⟩ = some (.func (.yield l) #[] #[]) := (World.cell?_of_block (a := ⟨yb, 0, none⟩) (hk1 yb (by omega) hyM' nd1 nd2)).trans hy4
                have zr : Wb.cell? ⟨rb, 0, none⟩ = some (.int .i64 (r : Int)) := (World.cell?_of_block (a := ⟨rb, 0, none⟩) (hk1 rb (by omega) hrM hnw.1 hnw.2)).trans hyr4
                have z2 : Wb.cell? ⟨H + 2, 0, none⟩ = some (.int .i64 (i : Int)) := (World.cell?_of_block (a := ⟨H + 2, 0, none⟩) (hk1 (H + 2) (by omega) (hMK _ (.inr ⟨by omega, by omega⟩)) hH2.1 hH2.2.1)).trans hy42
                have z3 : Wb.cell? ⟨H + 3, 0, none⟩ = some (.int .i64 (j : Int)) := (World.cell?_of_block (a := ⟨H + 3, 0, none⟩) (hk1 (H + 3) (by omega) (hMK _ (.inr ⟨by omega, by omega⟩)) hH3.1 hH3.2.1)).trans hy43
                have hst5 : Kt.St W.heap.size X.b1 X.b2 M1 Wa Wb := ⟨hext, fun q hq hm _ _ => hsame q (by
                  rintro rfl
                  rcases hm with h | h
                  · exact hMl h
                  · omega)⟩
                have HJ5 := HJ.out _ _ _ _ hI1 hst5
                obtain ⟨rl, hrl⟩ := hrec
                have HM5 : Memo X N M1 Wb := ((hInv1.loop hrl).inS (fun q hq hn => hsame q (fun e => hn (.inr e)))).less (fun q hq => .inl hq)
                have HEnc : EncT X Wb M1 (.node r i j x) (.agg #[.int .i64 (r : Int), .int .i64 (i : Int), .int .i64 (j : Int), v]) := Kt.TV.of_list (Kt.LV.less (Kt.LV.keep henc (fun q hq hn => hsame q (fun e => hn (.inl (.inr e))))) (fun q hq => hq.imp .inl id)) r i j
                have hM5lt : ∀ q, M1 q → q < Wb.heap.size := fun q hq => by have := hSub1.lt q hq; omega
                have hpre5 : (doneR X N s i j k ++ pre.map (Gr.Tr.node r i j)) ++ [.node r i j x] <+: Gr.D X.g (hitf X.tk) N (s : Int) i j := by
                  have := doneR_pre HX.out.R hN hrk.out hpre
                  rwa [List.map_append, ← List.append_assoc] at this
                obtain ⟨fn, tm, asg, bdy, hyy, hRr⟩ := Kt.yield_any (ro' := some l2) (m' := 0) (HR.out _ _ _ M1 Wb HJ5 HM5 hM5lt hpre5 HEnc)
                have HRr := Lib.hid hRr
                change Code.wpIn (Kt.Wd (some l2)) _ _ _ _ _ _
                clear hRr HJ5 HM5 HEnc hpre5 henc hst5 hk1
                subst hve
                unfold triFr
                gi_wp2_with fail
                refine (Kt.round_any HRr.out).mono ?_
                rintro e W' ⟨M2, hm2, hc2, hs2, hend⟩
                have HM2 := Lib.hid hm2
                clear hm2
                rcases hend with ⟨rfl, hJ2⟩ | ⟨rfl, hJ2⟩
                · rw [List.append_assoc] at hJ2
                  have HJ2 : Hid (J (doneR X N s i j k ++ (pre ++ [x]).map (Gr.Tr.node r i j)) M2 W') := Lib.hid (by rw [List.map_append]; exact hJ2)
                  clear hJ2
                  gi_wp2_with fail
                  exact ⟨M2, HM2.out, hc2, hs2, HJ2.out⟩
                · rw [List.append_assoc] at hJ2
                  have HJ2 : Hid (Jx (doneR X N s i j k ++ (pre ++ [x]).map (Gr.Tr.node r i j)) M2 W') := Lib.hid (by rw [List.map_append]; exact hJ2)
                  clear hJ2
                  gi_wp2_with fail
                  exact ⟨M2, HM2.out, hc2, hs2, rfl, HJ2.out⟩
            case hd =>
              intro M2 W2 hI2 hInv2 hCh2 hSub2 hND hD hDl
              rw [← doneR_succ hrk.out] at hI2
              have h24 := hCh2.ext.size
              have h34 : w3.heap.size ≤ w4.heap.size := hch4.ext.size
              have hyW2 : W2.cell? ⟨yb, 0, none⟩ = some (.func (.yield l) #[] #[]) := (World.cell?_of_block (a := ⟨yb, 0, none⟩) (hCh2.same yb (by omega) hyM' nd1 nd2)).trans hy4
              have HN2 : Hid (J (doneR X N s i j (k + 1)) M2 W2 ∧ Memo X N M2 W2 ∧ Kt.Ch X.b1 X.b2 M W W2 ∧ Kt.Sub M W M2 W2 ∧ ¬ M2 yb ∧ W2.cell? ⟨yb, 0, none⟩ = some (.func (.yield l) #[] #[]) ∧ yb < W2.heap.size ∧ Kt.Marks W.heap.size X.b1 X.b2 M2 W2 (Kt.mark w4.heap.size :: ds)) := Lib.hid ⟨hI2, hInv2, Kt.Ch.trans HC4.out hCh2 (fun q hq => HS4.out.old q hq), ⟨fun q hq => by
                  rcases hSub2.old q hq with e | e
                  · exact HS4.out.old q e
                  · exact .inr (by omega), hSub2.lt⟩, fun e => by
                  rcases hSub2.old _ e with e | e
                  · exact hyM' e
                  · omega, hyW2, by omega, (HK4.out.keep hCh2 hSub2).cons (fun D' hD' => by have := HK4.out.old D' hD'; omega) (by omega) hND (hnew _ (by omega)).1 (hnew _ (by omega)).2 hD⟩
              clear hI2 hInv2 hCh2 hSub2
              gi_wp2_with fail
              exact ⟨⟨k + 1, _, _, _, _, _, _, _, _, _, _, _, _, _, _, _, _, _, _, _, _, _, _, _, _, _, _, _, _, _, _, _, _, _, _, _, _, _, _, _, _, _, M2, by omega, rfl, HN2⟩, by simp [intOf]; omega⟩
            case hs =>
              intro cx pre M2 W2 hpre2 hIx2 hInv2 hCh2 hSub2 hND hD hDl
              obtain ⟨rfl, hIx3⟩ := hIx2
              have h24 := hCh2.ext.size
              have h34 : w3.heap.size ≤ w4.heap.size := hch4.ext.size
              have HCX : Hid (Kt.Ch X.b1 X.b2 M W W2) := Lib.hid (Kt.Ch.trans HC4.out hCh2 (fun q hq => HS4.out.old q hq))
              have HSX : Hid (Kt.Sub M W M2 W2) := Lib.hid ⟨fun q hq => by
                rcases hSub2.old q hq with e | e
                · exact HS4.out.old q e
                · exact .inr (by omega), hSub2.lt⟩
              have HMX := Lib.hid ((HK4.out.keep hCh2 hSub2).cons (fun D' hD' => by have := HK4.out.old D' hD'; omega) (by omega) hND (hnew _ (by omega)).1 (hnew _ (by omega)).2 hD)
              have HPX := Lib.hid (doneR_pre HX.out.R hN hrk.out hpre2)
              have HIX := Lib.hid hInv2
              clear hInv2 hCh2 hSub2
              gi_wp2_with fail
              exact iter_leaves rfl (fun M' W' => J (Gr.D X.g (hitf X.tk) N (s : Int) i j) M' W' ∨ ∃ pre, pre <+: Gr.D X.g (hitf X.tk) N (s : Int) i j ∧ Jx pre M' W') (fun W1 W2 h1 h2 => by
                rcases h1 with h1 | ⟨pre, h3, h4⟩
                · exact .inl (HJ.out _ _ _ _ h1 h2)
                · exact .inr ⟨pre, h3, HJX.out _ _ _ _ h4 h2⟩) HMX.out (.inr ⟨_, HPX.out, hIx3⟩) HIX.out HCX.out HSX.out
    · obtain rfl : k = L := by omega
      rw [doneR_all HX.out.R hN (by rw [hLL.out]; exact Nat.le_refl _)] at hJ
      have HJF := Lib.hid hJ
      have HMF := Lib.hid hM
      clear hJ hM hst
      gi_wp2_with fail
      exact iter_leaves rfl (fun M' W' => J (Gr.D X.g (hitf X.tk) N (s : Int) i j) M' W' ∨ ∃ pre, pre <+: Gr.D X.g (hitf X.tk) N (s : Int) i j ∧ Jx pre M' W') (fun W1 W2 h1 h2 => by
        rcases h1 with h1 | ⟨pre, h3, h4⟩
        · exact .inl (HJ.out _ _ _ _ h1 h2)
        · exact .inr ⟨pre, h3, HJX.out _ _ _ _ h4 h2⟩) hmk (.inl HJF.out) HMF.out hch hsub
end Go.Proofs.Ytkclifdbdnigaaa
end
