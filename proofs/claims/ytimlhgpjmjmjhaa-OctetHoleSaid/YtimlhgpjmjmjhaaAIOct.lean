/-! Bytes as numbers, the highest first. -/
namespace Go.Proofs.YtimlhgpjmjmjhaaW.AI.Oct
def be (l : List Int) : Int := l.foldl (fun s b => s * 256 + b) 0
def dg (n : Nat) (v : Int) : List Int := (List.range n).map fun k => v / 256 ^ (n - 1 - k) % 256
def Byt (l : List Int) : Prop := ∀ x ∈ l, 0 ≤ x ∧ x < 256

theorem be_fold (s : Int) : ∀ l : List Int, l.foldl (fun s b => s * 256 + b) s = s * 256 ^ l.length + be l
  | [] => by simp [be]
  | b :: l => by
    unfold be
    rw [List.foldl_cons, List.foldl_cons, be_fold (s * 256 + b) l, be_fold (0 * 256 + b) l, List.length_cons, Int.pow_succ]
    generalize (256 : Int) ^ l.length = p
    generalize be l = y
    have e1 : (s * 256 + b) * p = s * (p * 256) + b * p := by rw [Int.add_mul, Int.mul_assoc, Int.mul_comm 256 p]
    have e2 : (0 * 256 + b) * p = b * p := by rw [Int.zero_mul, Int.zero_add]
    omega
theorem be_append (l m : List Int) : be (l ++ m) = be l * 256 ^ m.length + be m := by
  unfold be; rw [List.foldl_append, be_fold]; rfl
theorem be_snoc (l : List Int) (b : Int) : be (l ++ [b]) = be l * 256 + b := by rw [be_append]; simp [be]
theorem snoc_ind {P : List Int → Prop} (h0 : P []) (h1 : ∀ l b, P l → P (l ++ [b])) (l : List Int) : P l := by
  have : ∀ m : List Int, P m.reverse := by
    intro m
    induction m with
    | nil => exact h0
    | cons b m ih => rw [List.reverse_cons]; exact h1 _ _ ih
  simpa using this l.reverse
theorem be_bound : ∀ {l : List Int}, Byt l → 0 ≤ be l ∧ be l < 256 ^ l.length := by
  intro l
  induction l using snoc_ind with
  | h0 => intro _; simp [be]
  | h1 l b ih =>
    intro h
    have h1 := ih fun x hx => h x (List.mem_append_left _ hx)
    have h2 := h b (by simp)
    rw [be_snoc, List.length_append, List.length_singleton, Int.pow_succ]
    generalize (256 : Int) ^ l.length = p at h1 ⊢
    omega
theorem dg_len (n : Nat) (v : Int) : (dg n v).length = n := by simp [dg]
theorem dg_byt (n : Nat) (v : Int) : Byt (dg n v) := by
  intro x hx
  unfold dg at hx
  obtain ⟨k, _, rfl⟩ := List.mem_map.1 hx
  omega
theorem dg_succ (n : Nat) (v : Int) : dg (n + 1) v = dg n (v / 256) ++ [v % 256] := by
  unfold dg
  rw [List.range_succ, List.map_append]
  congr 1
  · refine List.map_congr_left fun k hk => ?_
    have hk' := List.mem_range.1 hk
    have : n + 1 - 1 - k = (n - 1 - k) + 1 := by omega
    rw [this, Int.pow_succ, Int.mul_comm, Int.ediv_ediv_of_nonneg (by omega)]
  · simp
theorem be_dg : ∀ (n : Nat) (v : Int), 0 ≤ v → v < 256 ^ n → be (dg n v) = v
  | 0, v, h0, h1 => by simp at h1; have : v = 0 := by omega
                       subst this; rfl
  | n + 1, v, h0, h1 => by
    rw [dg_succ, be_snoc, be_dg n (v / 256) (by omega) ?_]
    · omega
    · rw [Int.pow_succ] at h1
      generalize (256 : Int) ^ n = p at h1 ⊢
      omega
theorem dg_be : ∀ {l : List Int}, Byt l → dg l.length (be l) = l := by
  intro l
  induction l using snoc_ind with
  | h0 => intro _; rfl
  | h1 l b ih =>
    intro h
    have h2 := h b (by simp)
    rw [be_snoc, List.length_append, List.length_singleton, dg_succ]
    have e1 : (be l * 256 + b) / 256 = be l := by omega
    have e2 : (be l * 256 + b) % 256 = b := by omega
    rw [e1, e2, ih fun x hx => h x (List.mem_append_left _ hx)]
theorem dg_inj {n : Nat} {u v : Int} (hu : 0 ≤ u ∧ u < 256 ^ n) (hv : 0 ≤ v ∧ v < 256 ^ n) (h : dg n u = dg n v) : u = v := by
  rw [← be_dg n u hu.1 hu.2, h, be_dg n v hv.1 hv.2]
theorem be_inj {l m : List Int} (hl : Byt l) (hm : Byt m) (hn : l.length = m.length) (h : be l = be m) : l = m := by
  rw [← dg_be hl, hn, h, dg_be hm]
theorem Byt.sub {l : List Int} (h : Byt l) (o n : Nat) : Byt ((l.drop o).take n) := fun x hx => h x (List.mem_of_mem_drop (List.mem_of_mem_take hx))
theorem Byt.app {l m : List Int} (h : Byt l) (k : Byt m) : Byt (l ++ m) := fun x hx => (List.mem_append.1 hx).elim (h x) (k x)
/-- So many cells written anew. -/
def splice (l : List Int) (o : Nat) (xs : List Int) : List Int := l.take o ++ xs ++ l.drop (o + xs.length)
theorem splice_len {l xs : List Int} {o : Nat} (h : o + xs.length ≤ l.length) : (splice l o xs).length = l.length := by
  unfold splice; simp; omega
theorem splice_at {l xs : List Int} {o : Nat} (h : o + xs.length ≤ l.length) : ((splice l o xs).drop o).take xs.length = xs := by
  unfold splice
  rw [List.append_assoc, List.drop_append_of_le_length (by simp; omega)]
  have : (l.take o).drop o = [] := List.drop_eq_nil_of_le (by simp; omega)
  rw [this, List.nil_append, List.take_append_of_le_length (Nat.le_refl _), List.take_length]
theorem splice_low {l xs : List Int} {o : Nat} (h : o + xs.length ≤ l.length) : (splice l o xs).take o = l.take o := by
  unfold splice
  rw [List.append_assoc, List.take_append_of_le_length (by simp; omega)]
  rw [List.take_take]; simp
theorem splice_high {l xs : List Int} {o : Nat} (h : o + xs.length ≤ l.length) : (splice l o xs).drop (o + xs.length) = l.drop (o + xs.length) := by
  unfold splice
  have hl : (l.take o ++ xs).length = o + xs.length := by simp; omega
  rw [List.drop_append_of_le_length (by omega), List.drop_eq_nil_of_le (by omega), List.nil_append]
theorem splice_back {l xs : List Int} {o : Nat} (h : o + xs.length ≤ l.length) : splice (splice l o xs) o ((l.drop o).take xs.length) = l := by
  have hl : ((l.drop o).take xs.length).length = xs.length := by simp; omega
  rw [show splice (splice l o xs) o ((l.drop o).take xs.length) = (splice l o xs).take o ++ (l.drop o).take xs.length ++ (splice l o xs).drop (o + ((l.drop o).take xs.length).length) from rfl, hl, splice_low h, splice_high h]
  rw [← List.drop_drop, List.append_assoc, List.take_append_drop, List.take_append_drop]
theorem Byt.splice {l xs : List Int} (h : Byt l) (k : Byt xs) (o : Nat) : Byt (splice l o xs) := fun x hx => by
  unfold Oct.splice at hx
  rcases List.mem_append.1 hx with h1 | h1
  · rcases List.mem_append.1 h1 with h2 | h2
    · exact h x (List.mem_of_mem_take h2)
    · exact k x h2
  · exact h x (List.mem_of_mem_drop h1)
end Go.Proofs.YtimlhgpjmjmjhaaW.AI.Oct
