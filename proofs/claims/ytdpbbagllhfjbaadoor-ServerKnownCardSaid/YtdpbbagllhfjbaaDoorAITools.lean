import Derived.Test.YtdpbbagllhfjbaaDoorAIWO
import Derived.Laws.Strings
/-! More contracts. -/
namespace Go.Proofs.YtdpbbagllhfjbaaDoorW.AI
open Go
set_option linter.unusedVariables false
set_option linter.unusedSectionVars false
theorem wp_eqP {α : Type} {o : Option α} {x : α} (h : Wp o fun r => r = x) : o = some x := by obtain ⟨r, rfl, rfl⟩ := h; rfl
theorem kBlock_keep {id : Nat} {keep : List Nat} {a b : Acts} {h : AHeap} {ws : List Nat} (e : keepA keep a = b) : kBlock id keep (some (.exit id, a, h, ws)) = some (.normal, b, h, ws) := by rw [w_kBlockE, if_pos rfl, e]
theorem trim_addr {n : Nat} {v : AV} {h : AHeap} {ws : List Nat} (hv : v.lt n = false) : trimR n (v, h, ws) = (v, h, ws) := by
  unfold trimR
  rw [if_neg]
  simp only [hv, Bool.false_and, Bool.false_eq_true, not_false_eq_true]
section
variable {C : Cfg}
/-- No address goes in or out; what is answered is told alone. -/
theorem W_val {f : Nat} {m : MFunc} {args : List AV} {v : AV} (hp : ∀ h, C.prim f args h = none) (hm : C.mp f = some m) (h0 : AV.lts 0 args = true) (hv : AV.lt 0 v = true)
    (e : Wp (xbody (W C) m args C.gl) fun r => r.1 = v) (h : AHeap) : W C f args h = some (v, h, []) := by
  obtain ⟨⟨v', h', ws⟩, e, rfl⟩ := e
  exact W_pure hp hm h0 hv e h
/-- Answers v, and only lays new blocks behind. -/
def Quiet (h : AHeap) (v : AV) (r : AV × AHeap × List Nat) : Prop := r.1 = v ∧ (∃ js, r.2.1 = h ++ js) ∧ r.2.2 = []
theorem quiet_i {h : AHeap} {v : AV} {js : AHeap} : Quiet h v (v, h ++ js, []) := ⟨rfl, ⟨js, rfl⟩, rfl⟩
theorem quiet_0 {h : AHeap} {v : AV} : Quiet h v (v, h, []) := ⟨rfl, ⟨[], by simp⟩, rfl⟩
theorem W_quietP {f : Nat} {m : MFunc} {args : List AV} {h : AHeap} {v : AV} (hp : C.prim f args h = none) (hm : C.mp f = some m) (h0 : AV.lts 0 args = false) (ht : m.trim = true) (hv : v.lt h.length = true) (hg : Good h)
    (e : Wp (xbody (W C) m args h) (Quiet h v)) : W C f args h = some (v, h, []) := by
  obtain ⟨⟨v', h', ws⟩, e, rfl, ⟨js, rfl⟩, rfl⟩ := e
  exact W_quiet (js := js) hp hm h0 ht hv hg e
end
end Go.Proofs.YtdpbbagllhfjbaaDoorW.AI
/-! Contracts of functions whose arguments may bear an address, or none. -/
namespace Go.Proofs.YtdpbbagllhfjbaaDoorW.AI
open Go
set_option linter.unusedVariables false
theorem nadd1 (n : Nat) : (n = n + 1) = False := by simp
theorem nadd2 (n : Nat) : (n = n + 2) = False := by simp
theorem nadd3 (n : Nat) : (n = n + 3) = False := by simp
theorem nadd4 (n : Nat) : (n = n + 4) = False := by simp
theorem nadd5 (n : Nat) : (n = n + 5) = False := by simp
theorem nadd6 (n : Nat) : (n = n + 6) = False := by simp
theorem nadd7 (n : Nat) : (n = n + 7) = False := by simp
theorem nadd8 (n : Nat) : (n = n + 8) = False := by simp
theorem nadd9 (n : Nat) : (n = n + 9) = False := by simp
theorem nadd10 (n : Nat) : (n = n + 10) = False := by simp
theorem nadd11 (n : Nat) : (n = n + 11) = False := by simp
theorem nadd12 (n : Nat) : (n = n + 12) = False := by simp
section
variable {C : Cfg}
/-- Answers v, no address, whether or not an address is handed in. -/
theorem W_both {f : Nat} {m : MFunc} {args : List AV} {v : AV} (I : AHeap → Prop) (hp : ∀ h, C.prim f args h = none) (hm : C.mp f = some m) (ht : m.trim = true) (hv : AV.lt 0 v = true) (hg0 : Good C.gl) (hi0 : I C.gl)
    (e : ∀ g, Good g → I g → Wp (xbody (W C) m args g) (Quiet g v)) {h : AHeap} (hg : Good h) (hi : I h) : W C f args h = some (v, h, []) := by
  cases h0 : AV.lts 0 args with
  | true => exact W_val hp hm h0 hv ((e _ hg0 hi0).mono fun r hr => hr.1) h
  | false => exact W_quietP (hp h) hm h0 ht (AV.lt_mono (Nat.zero_le _) _ hv) hg (e h hg hi)
end
end Go.Proofs.YtdpbbagllhfjbaaDoorW.AI
/-! Bytes as numbers, the highest first. -/
namespace Go.Proofs.YtdpbbagllhfjbaaDoorW.AI.Oct
def be (l : List Int) : Int := l.foldl (fun s b => s * 256 + b) 0
def dg (n : Nat) (v : Int) : List Int := (List.range n).map fun k => v / 256 ^ (n - 1 - k) % 256
def Byt (l : List Int) : Prop := ∀ x ∈ l, 0 ≤ x ∧ x < 256

theorem be_fold (s : Int) : ∀ l : List Int, l.foldl (fun s b => s * 256 + b) s = s * 256 ^ l.length + be l
  | [] => by simp [be]
  | b :: l => by
    unfold be
    rw [List.foldl_cons, List.foldl_cons, be_fold (s * 256 + b) l, be_fold (0 * 256 + b) l, List.length_cons, Int.pow_succ]
    generalize (256 : Int) ^ l.length = p
    generalize be l = y
    have e1 : (s * 256 + b) * p = s * (p * 256) + b * p := by rw [Int.add_mul, Int.mul_assoc, Int.mul_comm 256 p]
    have e2 : (0 * 256 + b) * p = b * p := by rw [Int.zero_mul, Int.zero_add]
    omega
theorem be_append (l m : List Int) : be (l ++ m) = be l * 256 ^ m.length + be m := by
  unfold be; rw [List.foldl_append, be_fold]; rfl
theorem be_snoc (l : List Int) (b : Int) : be (l ++ [b]) = be l * 256 + b := by rw [be_append]; simp [be]
theorem snoc_ind {P : List Int → Prop} (h0 : P []) (h1 : ∀ l b, P l → P (l ++ [b])) (l : List Int) : P l := by
  have : ∀ m : List Int, P m.reverse := by
    intro m
    induction m with
    | nil => exact h0
    | cons b m ih => rw [List.reverse_cons]; exact h1 _ _ ih
  simpa using this l.reverse
theorem be_bound : ∀ {l : List Int}, Byt l → 0 ≤ be l ∧ be l < 256 ^ l.length := by
  intro l
  induction l using snoc_ind with
  | h0 => intro _; simp [be]
  | h1 l b ih =>
    intro h
    have h1 := ih fun x hx => h x (List.mem_append_left _ hx)
    have h2 := h b (by simp)
    rw [be_snoc, List.length_append, List.length_singleton, Int.pow_succ]
    generalize (256 : Int) ^ l.length = p at h1 ⊢
    omega
theorem dg_len (n : Nat) (v : Int) : (dg n v).length = n := by simp [dg]
theorem dg_byt (n : Nat) (v : Int) : Byt (dg n v) := by
  intro x hx
  unfold dg at hx
  obtain ⟨k, _, rfl⟩ := List.mem_map.1 hx
  omega
theorem dg_succ (n : Nat) (v : Int) : dg (n + 1) v = dg n (v / 256) ++ [v % 256] := by
  unfold dg
  rw [List.range_succ, List.map_append]
  congr 1
  · refine List.map_congr_left fun k hk => ?_
    have hk' := List.mem_range.1 hk
    have : n + 1 - 1 - k = (n - 1 - k) + 1 := by omega
    rw [this, Int.pow_succ, Int.mul_comm, Int.ediv_ediv_of_nonneg (by omega)]
  · simp
theorem be_dg : ∀ (n : Nat) (v : Int), 0 ≤ v → v < 256 ^ n → be (dg n v) = v
  | 0, v, h0, h1 => by simp at h1; have : v = 0 := by omega
                       subst this; rfl
  | n + 1, v, h0, h1 => by
    rw [dg_succ, be_snoc, be_dg n (v / 256) (by omega) ?_]
    · omega
    · rw [Int.pow_succ] at h1
      generalize (256 : Int) ^ n = p at h1 ⊢
      omega
theorem dg_be : ∀ {l : List Int}, Byt l → dg l.length (be l) = l := by
  intro l
  induction l using snoc_ind with
  | h0 => intro _; rfl
  | h1 l b ih =>
    intro h
    have h2 := h b (by simp)
    rw [be_snoc, List.length_append, List.length_singleton, dg_succ]
    have e1 : (be l * 256 + b) / 256 = be l := by omega
    have e2 : (be l * 256 + b) % 256 = b := by omega
    rw [e1, e2, ih fun x hx => h x (List.mem_append_left _ hx)]
theorem Byt.sub {l : List Int} (h : Byt l) (o n : Nat) : Byt ((l.drop o).take n) := fun x hx => h x (List.mem_of_mem_drop (List.mem_of_mem_take hx))
theorem Byt.app {l m : List Int} (h : Byt l) (k : Byt m) : Byt (l ++ m) := fun x hx => (List.mem_append.1 hx).elim (h x) (k x)
/-- So many cells written anew. -/
def splice (l : List Int) (o : Nat) (xs : List Int) : List Int := l.take o ++ xs ++ l.drop (o + xs.length)
theorem Byt.splice {l xs : List Int} (h : Byt l) (k : Byt xs) (o : Nat) : Byt (splice l o xs) := fun x hx => by
  unfold Oct.splice at hx
  rcases List.mem_append.1 hx with h1 | h1
  · rcases List.mem_append.1 h1 with h2 | h2
    · exact h x (List.mem_of_mem_take h2)
    · exact k x h2
  · exact h x (List.mem_of_mem_drop h1)
end Go.Proofs.YtdpbbagllhfjbaaDoorW.AI.Oct
/-! Texts as rows of bytes. -/
namespace Go.Proofs.YtdpbbagllhfjbaaDoorW.AI
open Go
def sb (l : List UInt8) : ByteArray := ⟨⟨l⟩⟩
theorem sb_size (l : List UInt8) : (sb l).size = l.length := rfl
theorem sb_list (l : List UInt8) : (sb l).data.toList = l := rfl
theorem sb_toList (l : List UInt8) : (sb l).toList = l := by rw [ByteArray.toList_eq]; rfl
theorem sb_extract (l : List UInt8) (n : Nat) : (sb l).extract 0 n = sb (l.take n) := by
  apply ByteArray.ext
  simp only [ByteArray.data_extract, sb]
  simp
/-- Without the zeros behind. -/
def trimz (l : List UInt8) : List UInt8 := (l.reverse.dropWhile (· == 0)).reverse
theorem trimz_nil : trimz [] = [] := rfl
theorem trimz_zero (l : List UInt8) : trimz (l ++ [0]) = trimz l := by simp [trimz]
theorem trimz_snoc (l : List UInt8) {x : UInt8} (h : ¬ x = 0) : trimz (l ++ [x]) = l ++ [x] := by simp [trimz, h]
theorem u8_zero {x : UInt8} : ((x.toNat : Int) = 0) ↔ x = 0 := by
  constructor
  · intro h
    exact UInt8.toNat_inj.1 (by simpa using h)
  · rintro rfl; rfl
/-- Numbers as bytes. -/
def bsOf (l : List Int) : List UInt8 := l.map fun n => UInt8.ofNat n.toNat
theorem bytesOf_sb (l : List Int) : bytesOf (.ints .u8 l) = some (sb (bsOf l)) := rfl
theorem list_eqb (a b : List UInt8) : (a == b) = decide (a = b) := by
  rw [Bool.eq_iff_iff]; simp
theorem bsOf_inj : ∀ {a b : List Int}, (∀ x ∈ a, 0 ≤ x ∧ x < 256) → (∀ x ∈ b, 0 ≤ x ∧ x < 256) → bsOf a = bsOf b → a = b
  | [], [], _, _, _ => rfl
  | [], y :: b, _, _, h => by simp [bsOf] at h
  | x :: a, [], _, _, h => by simp [bsOf] at h
  | x :: a, y :: b, ha, hb, h => by
    simp only [bsOf, List.map_cons, List.cons.injEq] at h
    have h1 := bsOf_inj (fun z hz => ha z (List.mem_cons_of_mem _ hz)) (fun z hz => hb z (List.mem_cons_of_mem _ hz)) h.2
    have hx := ha x List.mem_cons_self
    have hy := hb y List.mem_cons_self
    have h2 := congrArg UInt8.toNat h.1
    simp only [UInt8.toNat_ofNat'] at h2
    rw [h1]
    congr 1
    omega
end Go.Proofs.YtdpbbagllhfjbaaDoorW.AI
/-! Slices of bytes that append makes. -/
namespace Go.Proofs.YtdpbbagllhfjbaaDoorW.AI
open Go
set_option linter.unusedVariables false
set_option linter.unusedSimpArgs false
/-- A row of bytes: nil, or what append made. -/
def GsAt (h : AHeap) (v : AV) (l : List Int) : Prop :=
  (v = .nils ∧ l = []) ∨ ∃ p mn o, v = .gsl p 0 l.length 1 mn ∧ h[p]? = some ⟨.tip o, .ints .u8 l⟩
def blkOf : AV → Option Nat
  | .gsl p _ _ _ _ => some p
  | _ => none
/-- What lies there stays, but for what append left behind, and the row itself. -/
def Keeps (h h' : AHeap) (p : Option Nat) : Prop :=
  (∀ q x, h[q]? = some x → (∀ j, p = some j → x.st ≠ .old j) → p ≠ some q → h'[q]? = some x) ∧ h.length ≤ h'.length ∧ (Good h → Good h')
theorem Keeps.refl (h : AHeap) (p : Option Nat) : Keeps h h p := ⟨fun _ _ e _ _ => e, Nat.le_refl _, id⟩
theorem Keeps.app (h js : AHeap) (p : Option Nat) (hj : js.all notOld = true) : Keeps h (h ++ js) p :=
  ⟨fun q x e _ _ => by rw [List.getElem?_append_left (List.getElem?_eq_some_iff.1 e).1]; exact e, by simp, fun hg => good_app hg hj⟩
theorem reTip_keeps {b j i : Nat} {h : AHeap} {x : ABlk} (hx : h[i]? = some x) (hs : x.st ≠ .old b) : (reTip b j h)[i]? = some x := by
  simp only [reTip, List.getElem?_map, hx, Option.map_some]
  cases x with
  | mk st c =>
    cases st <;> simp_all
theorem len_reTip (b j : Nat) (h : AHeap) : (reTip b j h).length = h.length := by simp [reTip]
theorem good_reTip {b : Nat} {h : AHeap} {y : ABlk} {c : ACells} {o : Bool} (hg : Good h) (hb : b < h.length) : Good ((reTip b h.length h).set b ⟨.old h.length, c⟩ ++ [⟨.tip o, y.c⟩]) := by
  unfold Good at *
  refine List.all_eq_true.2 fun x hx => ?_
  simp only [List.length_append, List.length_set, len_reTip, List.length_cons, List.length_nil]
  rcases List.mem_append.1 hx with hx | hx
  · rcases List.mem_or_eq_of_mem_set hx with hx | rfl
    · simp only [reTip, List.mem_map] at hx
      obtain ⟨z, hz, rfl⟩ := hx
      have := List.all_eq_true.1 hg z hz
      split
      · simp [oldIn]
      · unfold oldIn at this ⊢
        split at this <;> simp_all
        omega
    · simp [oldIn]
  · simp only [List.mem_singleton] at hx
    subst hx
    rfl
theorem good_set_old {b : Nat} {h : AHeap} {y : ABlk} {c : ACells} {o : Bool} (hg : Good h) (hb : b < h.length) : Good (h.set b ⟨.old h.length, c⟩ ++ [⟨.tip o, y.c⟩]) := by
  unfold Good at *
  refine List.all_eq_true.2 fun x hx => ?_
  simp only [List.length_append, List.length_set, List.length_cons, List.length_nil]
  rcases List.mem_append.1 hx with hx | hx
  · rcases List.mem_or_eq_of_mem_set hx with hx | rfl
    · have := List.all_eq_true.1 hg x hx
      unfold oldIn at this ⊢
      split at this <;> simp_all
      omega
    · simp [oldIn]
  · simp only [List.mem_singleton] at hx
    subst hx
    rfl
/-- Bytes are appended. -/
theorem app_one {h : AHeap} {v : AV} {l xs : List Int} {k : Nat} (hv : GsAt h v l) (hk : xs.length = k) (hk0 : 0 < k) (hr : l.length + k < 1000000) :
    ∃ v' h' ws, aappend h (.ints .u8 [0]) 1 v (.ints .u8 xs) k = some (v', h', ws) ∧ GsAt h' v' (l ++ xs) ∧ Keeps h h' (blkOf v) ∧ (∀ b ∈ ws, blkOf v = some b) ∧ blkOf v' = some h.length ∧ h'.length = h.length + 1 := by
  subst hk
  have room1 : ∀ n, n < 1000000 → room n 1 = true := by
    intro n hn
    simp only [room, decide_eq_true_eq]
    omega
  rcases hv with ⟨rfl, rfl⟩ | ⟨p, mn, o, rfl, hp⟩
  · refine ⟨.gsl h.length 0 xs.length 1 false, h ++ [.new (.ints .u8 xs)], [], ?_, ?_, ?_, by simp, rfl, by simp⟩
    · simp only [aappend, ACells.len]
      rw [if_neg (by omega), room1 _ (by simp at hr; omega)]
      rfl
    · refine Or.inr ⟨h.length, false, false, by simp, ?_⟩
      rw [List.getElem?_append_right (by omega)]; simp [ABlk.new]
    · exact Keeps.app _ _ _ rfl
  · have hpl := (List.getElem?_eq_some_iff.1 hp).1
    refine ⟨.gsl h.length 0 (l.length + xs.length) 1 mn, ((if o then reTip p h.length h else h).set p ⟨.old h.length, .ints .u8 l⟩) ++ [⟨.tip true, .ints .u8 (l ++ xs)⟩], [p], ?_, ?_, ?_, by simp [blkOf], rfl, by cases o <;> simp [len_reTip]⟩
    · simp only [aappend, ACells.len, List.length_cons, List.length_nil, hp]
      simp only [Nat.zero_add, Nat.mul_one, if_true]
      simp only [ACells.sub, List.drop_zero, Nat.mul_one, List.take_length, ACells.app, if_true, Option.bind_some]
      rw [room1 _ hr]
      simp
    · refine Or.inr ⟨h.length, mn, true, by simp, ?_⟩
      rw [List.getElem?_append_right (by cases o <;> simp [len_reTip])]
      cases o <;> simp [len_reTip]
    · refine ⟨fun q x hq hx hne => ?_, by cases o <;> simp [len_reTip], fun hg => ?_⟩
      · have hql := (List.getElem?_eq_some_iff.1 hq).1
        have hpq : p ≠ q := fun e => hne (by rw [e]; rfl)
        rw [List.getElem?_append_left (by cases o <;> simp [len_reTip] <;> exact hql), List.getElem?_set_ne hpq]
        cases o
        · exact hq
        · exact reTip_keeps hq (hx p rfl)
      · cases o
        · exact good_set_old (y := ⟨.tip true, .ints .u8 (l ++ xs)⟩) hg hpl
        · exact good_reTip (y := ⟨.tip true, .ints .u8 (l ++ xs)⟩) hg hpl
theorem GsAt.slen {h : AHeap} {v : AV} {l : List Int} (g : GsAt h v l) : slen v = some l.length := by
  rcases g with ⟨rfl, rfl⟩ | ⟨p, mn, o, rfl, _⟩ <;> rfl
theorem GsAt.keeps {h h' : AHeap} {v : AV} {l : List Int} {p : Option Nat} (g : GsAt h v l) (k : Keeps h h' p) (hne : ∀ q, blkOf v = some q → p ≠ some q) : GsAt h' v l := by
  rcases g with ⟨rfl, rfl⟩ | ⟨q, mn, o, rfl, hq⟩
  · exact Or.inl ⟨rfl, rfl⟩
  · exact Or.inr ⟨q, mn, o, rfl, k.1 q _ hq (fun j _ => by simp) (hne q rfl)⟩
theorem Keeps.trans {h h1 h2 : AHeap} {p p1 : Option Nat} (hg : Good h) (a : Keeps h h1 p) (b : Keeps h1 h2 p1) (hp : ∀ q, p1 = some q → q < h.length → p = some q) : Keeps h h2 p := by
  refine ⟨fun q x hq hx hne => b.1 q x (a.1 q x hq hx hne) (fun j hj e => ?_) fun e => hne (hp q e (List.getElem?_eq_some_iff.1 hq).1), Nat.le_trans a.2.1 b.2.1, fun hg => b.2.2 (a.2.2 hg)⟩
  have h3 := List.all_eq_true.1 hg x (List.mem_of_getElem? hq)
  unfold oldIn at h3
  rw [e] at h3
  exact hx j (hp j hj (by simpa using h3)) e
/-- What keeps all only lays new blocks behind. -/
theorem Keeps.behind {h h' : AHeap} (k : Keeps h h' none) : ∃ js, h' = h ++ js := by
  refine ⟨h'.drop h.length, ?_⟩
  apply List.ext_getElem?
  intro i
  by_cases hi : i < h.length
  · rw [List.getElem?_append_left hi]
    have := k.1 i h[i] (List.getElem?_eq_getElem hi) (by simp) (by simp)
    rw [this, List.getElem?_eq_getElem hi]
  · rw [List.getElem?_append_right (by omega), List.getElem?_drop]
    congr 1
    omega
theorem GsAt.lt {h : AHeap} {v : AV} {l : List Int} (g : GsAt h v l) : v.lt h.length = true := by
  rcases g with ⟨rfl, rfl⟩ | ⟨q, mn, o, rfl, hq⟩
  · rfl
  · simpa [AV.lt] using (List.getElem?_eq_some_iff.1 hq).1
/-- A function that answers a new address, whether or not an address is handed in. -/
theorem W_addr {C : Cfg} {f : Nat} {m : MFunc} {args : List AV} (I : AHeap → Prop) (P : AHeap → AV × AHeap × List Nat → Prop) (hp : ∀ h, C.prim f args h = none) (hm : C.mp f = some m) (ht : m.trim = true) (hi0 : I C.gl)
    (e : ∀ g, I g → Wp (xbody (W C) m args g) fun r => r.1.lt g.length = false ∧ P g r) {h : AHeap} (hi : I h) : ∃ r, W C f args h = some r ∧ P h r := by
  obtain ⟨⟨v, h', ws⟩, e1, g1, g2⟩ := e h hi
  refine ⟨(v, h', ws), ?_, g2⟩
  cases h0 : AV.lts 0 args with
  | false => rw [W_body (hp h) hm h0 e1, ht, if_pos rfl, trim_addr g1]
  | true =>
    obtain ⟨⟨v2, h2, ws2⟩, e2, g3, _⟩ := e C.gl hi0
    have g4 : v2.lt 0 = false := by
      cases h3 : v2.lt 0 with
      | false => rfl
      | true => rw [AV.lt_mono (Nat.zero_le _) _ h3] at g3; cases g3
    rw [W_made (hp h) hm h0 e2 g4 e1, ht, if_pos rfl, trim_addr g1]
theorem GsAt.cells {h : AHeap} {v : AV} {l : List Int} (g : GsAt h v l) (hl : 0 < l.length) : ∃ p mn, v = .gsl p 0 l.length 1 mn ∧ sliceCells h 1 (.gsl p 0 l.length 1 mn) = some (.ints .u8 l) := by
  rcases g with ⟨rfl, rfl⟩ | ⟨q, mn, o, rfl, hq⟩
  · simp at hl
  · exact ⟨q, mn, rfl, by simp [sliceCells, cellsAt, hq, ACells.len, ACells.sub]⟩
theorem sl_cells {h : AHeap} {b : Nat} {l : List Int} {o : Bool} {c : Nat} (hq : h[b]? = some ⟨.tip o, .ints .u8 l⟩) : sliceCells h 1 (.sl b 0 l.length c) = some (.ints .u8 l) := by
  simp [sliceCells, cellsAt, hq, ACells.len, ACells.sub]
end Go.Proofs.YtdpbbagllhfjbaaDoorW.AI
/-! Slices of 64-bit numbers that append makes. -/
namespace Go.Proofs.YtdpbbagllhfjbaaDoorW.AI
open Go
set_option linter.unusedVariables false
set_option linter.unusedSimpArgs false
/-- A row of numbers: nil, or what append made. -/
def Gs8At (h : AHeap) (v : AV) (l : List Int) : Prop :=
  (v = .nils ∧ l = []) ∨ ∃ p mn o, v = .gsl p 0 l.length 1 mn ∧ h[p]? = some ⟨.tip o, .ints .u64 l⟩
/-- Numbers are appended. -/
theorem app_one8 {h : AHeap} {v : AV} {l xs : List Int} {k : Nat} (hv : Gs8At h v l) (hk : xs.length = k) (hk0 : 0 < k) (hr : l.length + k < 1000000) :
    ∃ v' h' ws, aappend h (.ints .u64 [0]) 8 v (.ints .u64 xs) k = some (v', h', ws) ∧ Gs8At h' v' (l ++ xs) ∧ Keeps h h' (blkOf v) ∧ (∀ b ∈ ws, blkOf v = some b) ∧ blkOf v' = some h.length ∧ h'.length = h.length + 1 := by
  subst hk
  have room1 : ∀ n, n < 1000000 → room n 8 = true := by
    intro n hn
    simp only [room, decide_eq_true_eq]
    omega
  rcases hv with ⟨rfl, rfl⟩ | ⟨p, mn, o, rfl, hp⟩
  · refine ⟨.gsl h.length 0 xs.length 1 false, h ++ [.new (.ints .u64 xs)], [], ?_, ?_, ?_, by simp, rfl, by simp⟩
    · simp only [aappend, ACells.len]
      rw [if_neg (by omega), room1 _ (by simp at hr; omega)]
      rfl
    · refine Or.inr ⟨h.length, false, false, by simp, ?_⟩
      rw [List.getElem?_append_right (by omega)]; simp [ABlk.new]
    · exact Keeps.app _ _ _ rfl
  · have hpl := (List.getElem?_eq_some_iff.1 hp).1
    refine ⟨.gsl h.length 0 (l.length + xs.length) 1 mn, ((if o then reTip p h.length h else h).set p ⟨.old h.length, .ints .u64 l⟩) ++ [⟨.tip true, .ints .u64 (l ++ xs)⟩], [p], ?_, ?_, ?_, by simp [blkOf], rfl, by cases o <;> simp [len_reTip]⟩
    · simp only [aappend, ACells.len, List.length_cons, List.length_nil, hp]
      simp only [Nat.zero_add, Nat.mul_one, if_true]
      simp only [ACells.sub, List.drop_zero, Nat.mul_one, List.take_length, ACells.app, if_true, Option.bind_some]
      rw [room1 _ hr]
      simp
    · refine Or.inr ⟨h.length, mn, true, by simp, ?_⟩
      rw [List.getElem?_append_right (by cases o <;> simp [len_reTip])]
      cases o <;> simp [len_reTip]
    · refine ⟨fun q x hq hx hne => ?_, by cases o <;> simp [len_reTip], fun hg => ?_⟩
      · have hql := (List.getElem?_eq_some_iff.1 hq).1
        have hpq : p ≠ q := fun e => hne (by rw [e]; rfl)
        rw [List.getElem?_append_left (by cases o <;> simp [len_reTip] <;> exact hql), List.getElem?_set_ne hpq]
        cases o
        · exact hq
        · exact reTip_keeps hq (hx p rfl)
      · cases o
        · exact good_set_old (y := ⟨.tip true, .ints .u64 (l ++ xs)⟩) hg hpl
        · exact good_reTip (y := ⟨.tip true, .ints .u64 (l ++ xs)⟩) hg hpl
theorem Gs8At.slen {h : AHeap} {v : AV} {l : List Int} (g : Gs8At h v l) : slen v = some l.length := by
  rcases g with ⟨rfl, rfl⟩ | ⟨p, mn, o, rfl, _⟩ <;> rfl
theorem Gs8At.keeps {h h' : AHeap} {v : AV} {l : List Int} {p : Option Nat} (g : Gs8At h v l) (k : Keeps h h' p) (hne : ∀ q, blkOf v = some q → p ≠ some q) : Gs8At h' v l := by
  rcases g with ⟨rfl, rfl⟩ | ⟨q, mn, o, rfl, hq⟩
  · exact Or.inl ⟨rfl, rfl⟩
  · exact Or.inr ⟨q, mn, o, rfl, k.1 q _ hq (fun j _ => by simp) (hne q rfl)⟩
theorem Gs8At.lt {h : AHeap} {v : AV} {l : List Int} (g : Gs8At h v l) : v.lt h.length = true := by
  rcases g with ⟨rfl, rfl⟩ | ⟨q, mn, o, rfl, hq⟩
  · rfl
  · simpa [AV.lt] using (List.getElem?_eq_some_iff.1 hq).1
end Go.Proofs.YtdpbbagllhfjbaaDoorW.AI
