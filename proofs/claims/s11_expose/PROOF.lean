import PyProof.Rows.All
import Wide.All
import OpenK.AllK
import Wide.FinOn
import PyProof.EqAt
import PyProof.EqKinds
import PyProof.TupleCall
import Open.SpecLaws
import KE.OsGo
import HandS.ForSpec
import HandS.Walk
import PySem.Challenge.RW_paintsheets_s11_expose
set_option Elab.async false
set_option linter.all false
set_option maxRecDepth 100000
set_option maxHeartbeats 4000000
namespace Pm
/-! ### numbers and bytes -/
def Byt (l : List Int) : Prop := ∀ z, z ∈ l → 0 ≤ z ∧ z ≤ 255
def u8 (z : Int) : UInt8 := UInt8.ofNat z.toNat
def un (c : UInt8) : Int := (c.toNat : Int)
theorem un_u8 {z : Int} (h : 0 ≤ z ∧ z ≤ 255) : un (u8 z) = z := by
  unfold un u8
  rw [UInt8.toNat_ofNat']
  have : z.toNat % 2 ^ 8 = z.toNat := Nat.mod_eq_of_lt (by omega)
  rw [this]
  omega
theorem u8_zero {z : Int} (h : 0 ≤ z ∧ z ≤ 255) : u8 z = 0 ↔ z = 0 := by
  constructor
  · intro e
    have q := un_u8 h
    rw [e] at q
    exact q.symm
  · intro e
    subst e
    rfl
theorem u8_toNat {z : Int} (h : 0 ≤ z ∧ z ≤ 255) : (u8 z).toNat = z.toNat := by
  have q := un_u8 h
  unfold un at q
  omega
theorem u8_inj {z y : Int} (h : 0 ≤ z ∧ z ≤ 255) (h' : 0 ≤ y ∧ y ≤ 255) : u8 z = u8 y ↔ z = y := by
  constructor
  · intro e
    rw [← un_u8 h, e, un_u8 h']
  · intro e
    rw [e]
theorem text_eq (l : List Int) : Neutral.text l = l.map u8 := rfl
theorem text_len (l : List Int) : (Neutral.text l).length = l.length := by rw [text_eq, List.length_map]
theorem un_text : ∀ {l : List Int}, Byt l → (Neutral.text l).map un = l
  | [], _ => rfl
  | z :: r, h => by
    show un (u8 z) :: (Neutral.text r).map un = z :: r
    rw [un_u8 (h z (List.mem_cons_self ..)), un_text fun y hy => h y (List.mem_cons_of_mem _ hy)]
theorem Byt.get {l : List Int} (h : Byt l) {i : Nat} {z : Int} (e : l[i]? = some z) : 0 ≤ z ∧ z ≤ 255 := h z (List.mem_of_getElem? e)
theorem Byt.getD {l : List Int} (h : Byt l) (i : Nat) : 0 ≤ l.getD i 0 ∧ l.getD i 0 ≤ 255 := by
  rw [List.getD_eq_getElem?_getD]
  cases e : l[i]? with
  | none => exact ⟨Int.le_refl 0, (by decide : (0 : Int) ≤ 255)⟩
  | some z => exact h.get e
theorem text_getD {l : List Int} (i : Nat) : (Neutral.text l).getD i 0 = u8 (l.getD i 0) := by
  rw [text_eq, List.getD_eq_getElem?_getD, List.getD_eq_getElem?_getD, List.getElem?_map]
  cases l[i]? <;> rfl
theorem arr_getD {α : Type} (l : List α) (i : Nat) (d : α) : l.toArray.getD i d = l.getD i d := by
  rw [Array.getD_eq_getD_getElem?, List.getD_eq_getElem?_getD]
  simp
theorem shown_bytes (b : CeSheet.Bytes) : Neutral.shown (.bytes b) = (b.length : Int) :: b.map un := rfl
/-! ### the questions -/
def side (n : Int) : Bool := decide (1 ≤ n) && decide (n ≤ 256)
def pts (w h : Int) (l : List Int) : Bool := side w && (side h && decide ((l.length : Int) = w * h))
theorem side_iff {n : Int} : side n = true ↔ 1 ≤ n ∧ n ≤ 256 := by
  unfold side
  rw [Bool.and_eq_true, decide_eq_true_iff, decide_eq_true_iff]
theorem pts_iff {w h : Int} {l : List Int} : pts w h l = true ↔ (1 ≤ w ∧ w ≤ 256) ∧ (1 ≤ h ∧ h ≤ 256) ∧ (l.length : Int) = w * h := by
  unfold pts
  rw [Bool.and_eq_true, Bool.and_eq_true, side_iff, side_iff, decide_eq_true_iff]
theorem size_iff {w h : Nat} : CeSheet.sizeOk w h = true ↔ (1 ≤ w ∧ w ≤ 256) ∧ (1 ≤ h ∧ h ≤ 256) := by
  unfold CeSheet.sizeOk CeSheet.SIDE
  simp only [Bool.and_eq_true, decide_eq_true_iff]
  omega
theorem mul_nat {w h : Int} (hw : 0 ≤ w) (hh : 0 ≤ h) : ((w.toNat * h.toNat : Nat) : Int) = w * h := by
  rw [Int.natCast_mul, Int.toNat_of_nonneg hw, Int.toNat_of_nonneg hh]
theorem pts_iff_spec {w h : Int} {l : List Int} : CeSheetSpec.pointsOk (Neutral.text l) w.toNat h.toNat = true ↔ pts w h l = true := by
  rw [pts_iff]
  unfold CeSheetSpec.pointsOk
  rw [Bool.and_eq_true, size_iff, text_len, beq_iff_eq]
  constructor
  · rintro ⟨⟨h1, h2⟩, h3⟩
    have hw : 0 ≤ w := by omega
    have hh : 0 ≤ h := by omega
    have := mul_nat hw hh
    refine ⟨by omega, by omega, ?_⟩
    rw [← this, h3]
  · rintro ⟨h1, h2, h3⟩
    have hw : 0 ≤ w := by omega
    have hh : 0 ≤ h := by omega
    have := mul_nat hw hh
    refine ⟨⟨by omega, by omega⟩, ?_⟩
    omega
theorem pts_spec {w h : Int} {l : List Int} : CeSheetSpec.pointsOk (Neutral.text l) w.toNat h.toNat = pts w h l := by
  cases e : pts w h l with
  | true => exact pts_iff_spec.mpr e
  | false =>
    cases e2 : CeSheetSpec.pointsOk (Neutral.text l) w.toNat h.toNat with
    | false => rfl
    | true =>
      rw [pts_iff_spec.mp e2] at e
      cases e
/-! ### over -/
def overL (up low : List Int) : List Int := List.zipWith (fun a b => if a = 0 then b else a) up low
theorem over_un : ∀ {up low : List Int}, Byt up → Byt low → (CeSheet.over (Neutral.text up) (Neutral.text low)).map un = overL up low
  | [], _, _, _ => rfl
  | _ :: _, [], _, _ => rfl
  | a :: r, b :: s, h1, h2 => by
    show un (CeSheet.overPaint (u8 a) (u8 b)) :: (CeSheet.over (Neutral.text r) (Neutral.text s)).map un = (if a = 0 then b else a) :: overL r s
    rw [over_un (fun y hy => h1 y (List.mem_cons_of_mem _ hy)) fun y hy => h2 y (List.mem_cons_of_mem _ hy)]
    have ha := h1 a (List.mem_cons_self ..)
    have hb := h2 b (List.mem_cons_self ..)
    unfold CeSheet.overPaint
    by_cases c : a = 0
    · rw [if_pos c, if_pos ((u8_zero ha).mpr c), un_u8 hb]
    · rw [if_neg c, if_neg (fun e => c ((u8_zero ha).mp e)), un_u8 ha]
def over (w h : Int) (up low : List Int) : List Int := if (pts w h up && pts w h low) = true then ((overL up low).length : Int) :: overL up low else [-1]
theorem over_is {w h : Int} {up low : List Int} (h1 : Byt up) (h2 : Byt low) : PyWqasbp.over w h up low = over w h up low := by
  show Neutral.shown (if CeSheetSpec.pointsOk (Neutral.text up) w.toNat h.toNat = true ∧ CeSheetSpec.pointsOk (Neutral.text low) w.toNat h.toNat = true then .bytes (CeSheet.over (Neutral.text up) (Neutral.text low)) else CeSheetSpec.no 1) = _
  unfold over
  rw [pts_spec, pts_spec]
  by_cases c : (pts w h up && pts w h low) = true
  · rw [if_pos c, if_pos (Bool.and_eq_true_iff.mp c), shown_bytes, over_un h1 h2]
    have e := congrArg List.length (over_un h1 h2)
    rw [List.length_map] at e
    rw [e]
  · rw [if_neg c, if_neg (fun q => c (Bool.and_eq_true_iff.mpr q))]
    rfl
/-! ### repaint -/
def repaintL (table a : List Int) : List Int := a.map fun p => if p = 0 then 0 else table.getD p.toNat 0
theorem repaint_un {table : List Int} (ht : Byt table) : ∀ {a : List Int}, Byt a → (CeSheet.repainted (Neutral.text table) (Neutral.text a)).map un = repaintL table a
  | [], _ => rfl
  | p :: r, h => by
    show un (if u8 p = 0 then 0 else (Neutral.text table).toArray.getD (u8 p).toNat 0) :: (CeSheet.repainted (Neutral.text table) (Neutral.text r)).map un = (if p = 0 then 0 else table.getD p.toNat 0) :: repaintL table r
    rw [repaint_un ht fun y hy => h y (List.mem_cons_of_mem _ hy)]
    have hp := h p (List.mem_cons_self ..)
    by_cases c : p = 0
    · rw [if_pos c, if_pos ((u8_zero hp).mpr c)]
      rfl
    · rw [if_neg c, if_neg (fun e => c ((u8_zero hp).mp e)), arr_getD, text_getD, u8_toNat hp, un_u8 (ht.getD _)]
def repaint (w h : Int) (a table : List Int) : List Int := if (pts w h a && decide (table.length = 256)) = true then ((repaintL table a).length : Int) :: repaintL table a else [-1]
theorem repaint_is {w h : Int} {a table : List Int} (h1 : Byt a) (h2 : Byt table) : PyWqasbp.repaint w h a table = repaint w h a table := by
  show Neutral.shown (if CeSheetSpec.pointsOk (Neutral.text a) w.toNat h.toNat = true ∧ (Neutral.text table).length = 256 then .bytes (CeSheet.repainted (Neutral.text table) (Neutral.text a)) else CeSheetSpec.no 1) = _
  unfold repaint
  rw [pts_spec, text_len]
  by_cases c : (pts w h a && decide (table.length = 256)) = true
  · have c' := Bool.and_eq_true_iff.mp c
    rw [if_pos c, if_pos ⟨c'.1, of_decide_eq_true c'.2⟩, shown_bytes, repaint_un h2 h1]
    have e := congrArg List.length (repaint_un h2 h1)
    rw [List.length_map] at e
    rw [e]
  · rw [if_neg c, if_neg (fun q => c (Bool.and_eq_true_iff.mpr ⟨q.1, decide_eq_true q.2⟩))]
    rfl
/-! ### count -/
theorem count_un {p : Int} (hp : 0 ≤ p) : ∀ {a : List Int}, Byt a → CeSheet.countOf (Neutral.text a) p.toNat = a.count p
  | [], _ => rfl
  | z :: r, h => by
    have ih := count_un hp (a := r) fun y hy => h y (List.mem_cons_of_mem _ hy)
    have hz := h z (List.mem_cons_self ..)
    unfold CeSheet.countOf at ih ⊢
    rw [text_eq] at ih ⊢
    rw [List.map_cons, List.countP_cons, ih, List.count_cons]
    have e : ((u8 z).toNat == p.toNat) = (z == p) := by
      rw [u8_toNat hz]
      by_cases c : z = p
      · subst c
        simp
      · have : ¬ z.toNat = p.toNat := by omega
        rw [beq_false_of_ne c, beq_false_of_ne this]
    rw [e]
def count (w h p : Int) (a : List Int) : List Int := if (pts w h a && decide (p ≤ 255)) = true then [((a.count p : Nat) : Int)] else [-1]
theorem count_is {w h p : Int} {a : List Int} (hp : 0 ≤ p) (h1 : Byt a) : PyWqasbp.count w h p a = count w h p a := by
  show Neutral.shown (if CeSheetSpec.pointsOk (Neutral.text a) w.toNat h.toNat = true ∧ p.toNat ≤ 255 then .nums [CeSheet.countOf (Neutral.text a) p.toNat] else CeSheetSpec.no 1) = _
  unfold count
  rw [pts_spec, count_un hp h1]
  by_cases c : (pts w h a && decide (p ≤ 255)) = true
  · have c' := Bool.and_eq_true_iff.mp c
    have c2 := of_decide_eq_true c'.2
    rw [if_pos c, if_pos ⟨c'.1, by omega⟩]
    rfl
  · rw [if_neg c, if_neg (fun q => c (Bool.and_eq_true_iff.mpr ⟨q.1, decide_eq_true (by omega)⟩))]
    rfl
end Pm
namespace Pm
/-! ### differ -/
/-- the first place at which two lists differ -/
def unlike : List Int → List Int → Nat → Option Nat
  | x :: r, y :: s, i => if x = y then unlike r s (i + 1) else some i
  | _, _, _ => none
theorem unlike_cons (x y : Int) (r s : List Int) (i : Nat) : unlike (x :: r) (y :: s) i = if x = y then unlike r s (i + 1) else some i := by rw [unlike]
theorem unlike_from : ∀ (a b : List Int) (i : Nat), unlike a b i = (unlike a b 0).map (· + i)
  | [], _, i => by simp [unlike]
  | _ :: _, [], i => by simp [unlike]
  | x :: r, y :: s, i => by
    unfold unlike
    by_cases c : x = y
    · rw [if_pos c, if_pos c, unlike_from r s (i + 1), unlike_from r s (0 + 1), Option.map_map]
      congr 1
      funext k
      show k + (i + 1) = k + (0 + 1) + i
      omega
    · rw [if_neg c, if_neg c]
      simp
theorem unlike_spec : ∀ {a b : List Int}, Byt a → Byt b → CeSheet.firstDiffer (Neutral.text a) (Neutral.text b) = unlike a b 0
  | [], b, _, _ => by
    unfold unlike
    rfl
  | _ :: _, [], _, _ => by
    unfold unlike
    rfl
  | x :: r, y :: s, h1, h2 => by
    have ih := unlike_spec (a := r) (b := s) (fun z hz => h1 z (List.mem_cons_of_mem _ hz)) fun z hz => h2 z (List.mem_cons_of_mem _ hz)
    have hx := h1 x (List.mem_cons_self ..)
    have hy := h2 y (List.mem_cons_self ..)
    unfold CeSheet.firstDiffer at ih ⊢
    show ((u8 x, u8 y) :: (Neutral.text r).zip (Neutral.text s)).findIdx? (fun x => x.1 != x.2) = _
    rw [List.findIdx?_cons, ih]
    rw [unlike_cons]
    by_cases c : x = y
    · have e : (u8 x != u8 y) = false := by
        rw [(u8_inj hx hy).mpr c]
        simp
      rw [if_pos c, unlike_from r s (0 + 1)]
      simp only [e]
      rfl
    · have e : (u8 x != u8 y) = true := by
        rw [bne_iff_ne]
        exact fun q => c ((u8_inj hx hy).mp q)
      rw [if_neg c]
      simp only [e]
      rfl
def differ (w h : Int) (a b : List Int) : List Int := if (pts w h a && pts w h b) = true then (match unlike a b 0 with
  | some i => [((i : Nat) : Int)]
  | none => [-3]) else [-1]
theorem differ_is {w h : Int} {a b : List Int} (h1 : Byt a) (h2 : Byt b) : PyWqasbp.differ w h a b = differ w h a b := by
  show Neutral.shown (if CeSheetSpec.pointsOk (Neutral.text a) w.toNat h.toNat = true ∧ CeSheetSpec.pointsOk (Neutral.text b) w.toNat h.toNat = true then (match CeSheet.firstDiffer (Neutral.text a) (Neutral.text b) with
    | some i => .nums [i]
    | none => CeSheetSpec.no 3) else CeSheetSpec.no 1) = _
  unfold differ
  rw [pts_spec, pts_spec, unlike_spec h1 h2]
  by_cases c : (pts w h a && pts w h b) = true
  · rw [if_pos c, if_pos (Bool.and_eq_true_iff.mp c)]
    cases unlike a b 0 <;> rfl
  · rw [if_neg c, if_neg (fun q => c (Bool.and_eq_true_iff.mpr q))]
    rfl
/-- what the loop knows: alike so far -/
theorem unlike_at : ∀ {a b : List Int} {i : Nat} {x y : Int}, (∀ j, j < i → a[j]? = b[j]?) → a[i]? = some x → b[i]? = some y → x ≠ y → unlike a b 0 = some i
  | [], _, _, _, _, _, h, _, _ => by simp at h
  | _ :: _, [], _, _, _, _, _, h, _ => by simp at h
  | p :: r, q :: s, 0, x, y, _, h1, h2, hn => by
    have e1 : p = x := Option.some.inj h1
    have e2 : q = y := Option.some.inj h2
    unfold unlike
    rw [if_neg (by rw [e1, e2]; exact hn)]
  | p :: r, q :: s, i + 1, x, y, ha, h1, h2, hn => by
    have e : p = q := Option.some.inj (ha 0 (by omega))
    unfold unlike
    rw [if_pos e, unlike_from, unlike_at (a := r) (b := s) (i := i) (fun j hj => ha (j + 1) (by omega)) h1 h2 hn]
    rfl
theorem unlike_none : ∀ {a b : List Int}, (∀ j : Nat, j < a.length → a[j]? = b[j]?) → unlike a b 0 = none
  | [], _, _ => by simp [unlike]
  | _ :: _, [], _ => by simp [unlike]
  | p :: r, q :: s, ha => by
    have e : p = q := Option.some.inj (ha 0 (by simp))
    unfold unlike
    rw [if_pos e, unlike_from, unlike_none (a := r) (b := s) fun j hj => ha (j + 1) (by simpa using hj)]
    rfl
/-! ### films -/
def Nn (l : List Int) : Prop := ∀ z, z ∈ l → 0 ≤ z
def film (w h : Int) (l : List Int) : Bool := side w && (side h && (decide ((l.length : Int) = 3 * w * h) && l.all fun n => decide (n ≤ 65535)))
theorem film_iff {w h : Int} {l : List Int} : film w h l = true ↔ (1 ≤ w ∧ w ≤ 256) ∧ (1 ≤ h ∧ h ≤ 256) ∧ (l.length : Int) = 3 * w * h ∧ ∀ z, z ∈ l → z ≤ 65535 := by
  unfold film
  simp only [Bool.and_eq_true, side_iff, decide_eq_true_iff, List.all_eq_true]
theorem nats_all : ∀ {l : List Int}, Nn l → ((Neutral.nats l).all fun n => decide (n ≤ CeSheet.FULL)) = l.all fun n => decide (n ≤ 65535)
  | [], _ => rfl
  | z :: r, h => by
    show (decide (z.toNat ≤ CeSheet.FULL) && (Neutral.nats r).all fun n => decide (n ≤ CeSheet.FULL)) = (decide (z ≤ 65535) && r.all fun n => decide (n ≤ 65535))
    rw [nats_all fun y hy => h y (List.mem_cons_of_mem _ hy)]
    have hz := h z (List.mem_cons_self ..)
    have e : decide (z.toNat ≤ CeSheet.FULL) = decide (z ≤ 65535) := by
      unfold CeSheet.FULL
      by_cases c : z ≤ 65535
      · rw [decide_eq_true c, decide_eq_true (by omega)]
      · rw [decide_eq_false c, decide_eq_false (by omega)]
    rw [e]
theorem film_iff_spec {w h : Int} {l : List Int} (hl : Nn l) : CeSheetSpec.filmOk (Neutral.nats l) w.toNat h.toNat = true ↔ film w h l = true := by
  unfold CeSheetSpec.filmOk film
  have el : (Neutral.nats l).length = l.length := by
    show (l.map Int.toNat).length = l.length
    rw [List.length_map]
  rw [nats_all hl, el]
  simp only [Bool.and_eq_true, size_iff, side_iff, beq_iff_eq, decide_eq_true_iff]
  constructor
  · rintro ⟨⟨h1, h2⟩, h3, h4⟩
    have hw : 0 ≤ w := by omega
    have hh : 0 ≤ h := by omega
    have := mul_nat hw hh
    refine ⟨by omega, by omega, ?_, h4⟩
    rw [Int.mul_assoc, ← this, h3, Int.natCast_mul]
    rfl
  · rintro ⟨h1, h2, h3, h4⟩
    have hw : 0 ≤ w := by omega
    have hh : 0 ≤ h := by omega
    have := mul_nat hw hh
    refine ⟨⟨by omega, by omega⟩, ?_, h4⟩
    rw [Int.mul_assoc] at h3
    omega
theorem film_spec {w h : Int} {l : List Int} (hl : Nn l) : CeSheetSpec.filmOk (Neutral.nats l) w.toNat h.toNat = film w h l := by
  cases e : film w h l with
  | true => exact (film_iff_spec hl).mpr e
  | false =>
    cases e2 : CeSheetSpec.filmOk (Neutral.nats l) w.toNat h.toNat with
    | false => rfl
    | true =>
      rw [(film_iff_spec hl).mp e2] at e
      cases e
/-! ### develop -/
def dev (n : Int) : Int := if (n + 32) / 64 < 255 then (n + 32) / 64 else 255
def developL (f : List Int) : List Int := f.map dev
theorem develop_un : ∀ {f : List Int}, Nn f → (CeSheet.developed (Neutral.nats f)).map un = developL f
  | [], _ => rfl
  | n :: r, h => by
    show un (UInt8.ofNat (min 255 ((n.toNat + 32) / 64))) :: (CeSheet.developed (Neutral.nats r)).map un = dev n :: developL r
    rw [develop_un fun y hy => h y (List.mem_cons_of_mem _ hy)]
    have hn := h n (List.mem_cons_self ..)
    have e : un (UInt8.ofNat (min 255 ((n.toNat + 32) / 64))) = dev n := by
      unfold un dev
      rw [UInt8.toNat_ofNat']
      have z : min 255 ((n.toNat + 32) / 64) % 2 ^ 8 = min 255 ((n.toNat + 32) / 64) := Nat.mod_eq_of_lt (by omega)
      rw [z]
      by_cases c : (n + 32) / 64 < 255
      · rw [if_pos c]
        omega
      · rw [if_neg c]
        omega
    rw [e]
def develop (w h : Int) (f : List Int) : List Int := if film w h f = true then ((developL f).length : Int) :: developL f else [-1]
theorem develop_is {w h : Int} {f : List Int} (h1 : Nn f) : PyWqasbp.develop w h f = develop w h f := by
  show Neutral.shown (if CeSheetSpec.filmOk (Neutral.nats f) w.toNat h.toNat = true then .bytes (CeSheet.developed (Neutral.nats f)) else CeSheetSpec.no 1) = _
  unfold develop
  rw [film_spec h1]
  by_cases c : film w h f = true
  · rw [if_pos c, if_pos c, shown_bytes, develop_un h1]
    have e := congrArg List.length (develop_un h1)
    rw [List.length_map] at e
    rw [e]
  · rw [if_neg c, if_neg c]
    rfl
/-! ### rows of rows -/
theorem grid {α : Type} (n : Nat) (g : Nat → Nat → α) : ∀ m : Nat, (List.range (m * n)).map (fun i => g (i / n) (i % n)) = (List.range m).flatMap fun c => (List.range n).map (g c)
  | 0 => by simp
  | m + 1 => by
    rw [Nat.succ_mul, List.range_add, List.map_append, grid n g m, List.range_succ, List.flatMap_append]
    congr 1
    rw [List.map_map, List.flatMap_singleton]
    refine List.map_congr_left fun x hx => ?_
    have hx' : x < n := List.mem_range.mp hx
    show g ((m * n + x) / n) ((m * n + x) % n) = g m x
    rw [Nat.mul_comm m n, Nat.mul_add_div (by omega), Nat.mul_add_mod, Nat.div_eq_of_lt hx', Nat.mod_eq_of_lt hx', Nat.add_zero]
/-! ### expose -/
def lightAt (model : List Int) (paint : Int) (c : Nat) : Int := model.getD (3 * paint + (c : Int)).toNat 0
def grow (n e l : Int) : Int := if n + e * l < 65535 then n + e * l else 65535
def exposeRow (film a model : List Int) (e : Int) (c : Nat) : List Int := (List.range a.length).map fun i => grow (film.getD (c * a.length + i) 0) e (lightAt model (a.getD i 0) c)
def exposeL (film a model : List Int) (e : Int) : List Int := (List.range 3).flatMap fun c => exposeRow film a model e c
theorem nats_getD (l : List Int) (i : Nat) : (Neutral.nats l).getD i 0 = (l.getD i 0).toNat := by
  show (l.map Int.toNat).getD i 0 = _
  rw [List.getD_eq_getElem?_getD, List.getD_eq_getElem?_getD, List.getElem?_map]
  cases l[i]? <;> rfl
theorem Nn.getD {l : List Int} (h : Nn l) (i : Nat) : 0 ≤ l.getD i 0 := by
  rw [List.getD_eq_getElem?_getD]
  cases e : l[i]? with
  | none => exact Int.le_refl 0
  | some z => exact h z (List.mem_of_getElem? e)
theorem expose_un {film a model : List Int} {e : Int} (he : 0 ≤ e) (hf : Nn film) (ha : Byt a) (hm : Byt model) :
    (CeSheet.exposed (Neutral.text model) (Neutral.text a) e.toNat (Neutral.nats film)).map (fun (n : Nat) => (n : Int)) = exposeL film a model e := by
  unfold CeSheet.exposed exposeL
  rw [text_len]
  have g := grid a.length (fun c i => grow (film.getD (c * a.length + i) 0) e (lightAt model (a.getD i 0) c)) 3
  show ((List.range (3 * a.length)).map _).map _ = _
  unfold exposeRow
  rw [← g, List.map_map]
  refine List.map_congr_left fun i hi => ?_
  have hi' : i < 3 * a.length := List.mem_range.mp hi
  have dm : i / a.length * a.length + i % a.length = i := by
    have := Nat.div_add_mod i a.length
    rw [Nat.mul_comm] at this
    exact this
  show ((CeSheet.grown ((Neutral.nats film).toArray.getD i 0) e.toNat ((Neutral.text model).toArray.getD (3 * ((Neutral.text a).toArray.getD (i % a.length) 0).toNat + i / a.length) 0).toNat : Nat) : Int) = _
  rw [arr_getD, arr_getD, arr_getD, nats_getD, text_getD, text_getD, u8_toNat (ha.getD _), u8_toNat (hm.getD _)]
  show _ = grow (film.getD (i / a.length * a.length + i % a.length) 0) e (lightAt model (a.getD (i % a.length) 0) (i / a.length))
  rw [dm]
  unfold lightAt
  have hp := ha.getD (i % a.length)
  generalize a.getD (i % a.length) 0 = p at hp
  generalize i / a.length = k
  have ep : (3 * p + (k : Int)).toNat = 3 * p.toNat + k := by omega
  rw [ep]
  have hl := hm.getD (3 * p.toNat + k)
  have hn := hf.getD i
  generalize model.getD (3 * p.toNat + k) 0 = l at hl
  generalize film.getD i 0 = n at hn
  unfold CeSheet.grown CeSheet.FULL grow
  have em : ((e.toNat * l.toNat : Nat) : Int) = e * l := mul_nat he hl.1
  generalize e.toNat * l.toNat = q at em
  rw [← em]
  by_cases c : n + (q : Int) < 65535
  · rw [if_pos c]
    omega
  · rw [if_neg c]
    omega
def expose (w h e : Int) (fl a model : List Int) : List Int := if (pts w h a && (film w h fl && (decide (model.length = 768) && decide (e ≤ 64)))) = true then exposeL fl a model e else [-1]
theorem expose_is {w h e : Int} {fl a model : List Int} (he : 0 ≤ e) (hf : Nn fl) (ha : Byt a) (hm : Byt model) : PyWqasbp.expose w h e fl a model = expose w h e fl a model := by
  show Neutral.shown (if CeSheetSpec.filmOk (Neutral.nats fl) w.toNat h.toNat = true ∧ CeSheetSpec.pointsOk (Neutral.text a) w.toNat h.toNat = true ∧ (Neutral.text model).length = 768 ∧ e.toNat ≤ 64 then
    .nums (CeSheet.exposed (Neutral.text model) (Neutral.text a) e.toNat (Neutral.nats fl)) else CeSheetSpec.no 1) = _
  unfold expose
  rw [pts_spec, film_spec hf, text_len]
  simp only [Bool.and_eq_true, decide_eq_true_iff]
  by_cases c : pts w h a = true ∧ film w h fl = true ∧ model.length = 768 ∧ e ≤ 64
  · rw [if_pos c, if_pos ⟨c.2.1, c.1, c.2.2.1, by omega⟩]
    exact expose_un he hf ha hm
  · rw [if_neg c, if_neg (fun q => c ⟨q.2.1, q.1, q.2.2.1, by omega⟩)]
    rfl
/-! ### move -/
def paintAt (w h : Int) (a : List Int) (x y : Int) : Int := if x < 0 ∨ x ≥ w ∨ y < 0 ∨ y ≥ h then 0 else a.getD (y * w + x).toNat 0
def moveRow (w h dx dy : Int) (a : List Int) (y : Nat) : List Int := (List.range w.toNat).map fun (x : Nat) => paintAt w h a ((x : Int) - dx) ((y : Int) - dy)
def moveL (w h dx dy : Int) (a : List Int) : List Int := (List.range h.toNat).flatMap fun y => moveRow w h dx dy a y
theorem move_un {w h dx dy : Int} {a : List Int} (hw : 0 ≤ w) (hh : 0 ≤ h) (ha : Byt a) : (CeSheet.Sheet.moved ⟨w.toNat, h.toNat, Neutral.text a⟩ dx dy).map un = moveL w h dx dy a := by
  unfold CeSheet.Sheet.moved moveL
  have g := grid w.toNat (fun (y x : Nat) => paintAt w h a ((x : Int) - dx) ((y : Int) - dy)) h.toNat
  unfold moveRow
  rw [← g, Nat.mul_comm h.toNat w.toNat]
  show ((List.range (w.toNat * h.toNat)).map _).map un = _
  rw [List.map_map]
  refine List.map_congr_left fun i hi => ?_
  show un (if 0 ≤ ((i % w.toNat : Nat) : Int) - dx ∧ ((i % w.toNat : Nat) : Int) - dx < (w.toNat : Int) ∧ 0 ≤ ((i / w.toNat : Nat) : Int) - dy ∧ ((i / w.toNat : Nat) : Int) - dy < (h.toNat : Int) then
    (Neutral.text a).toArray.getD ((((i / w.toNat : Nat) : Int) - dy).toNat * w.toNat + (((i % w.toNat : Nat) : Int) - dx).toNat) 0 else 0) = paintAt w h a (((i % w.toNat : Nat) : Int) - dx) (((i / w.toNat : Nat) : Int) - dy)
  generalize ((i % w.toNat : Nat) : Int) - dx = x
  generalize ((i / w.toNat : Nat) : Int) - dy = y
  unfold paintAt
  rw [Int.toNat_of_nonneg hw, Int.toNat_of_nonneg hh]
  by_cases c : x < 0 ∨ x ≥ w ∨ y < 0 ∨ y ≥ h
  · rw [if_pos c, if_neg (by omega)]
    rfl
  · rw [if_neg c, if_pos (by omega), arr_getD, text_getD, un_u8 (ha.getD _)]
    have e := mul_nat (w := y) (h := w) (by omega) hw
    congr 1
    omega
def move (w h dx dy : Int) (a : List Int) : List Int := if pts w h a = true then ((moveL w h dx dy a).length : Int) :: moveL w h dx dy a else [-1]
theorem move_is {w h dx dy : Int} {a : List Int} (h1 : Byt a) : PyWqasbp.move w h dx dy a = move w h dx dy a := by
  show Neutral.shown (if CeSheetSpec.pointsOk (Neutral.text a) w.toNat h.toNat = true then .bytes (CeSheet.Sheet.moved ⟨w.toNat, h.toNat, Neutral.text a⟩ dx dy) else CeSheetSpec.no 1) = _
  unfold move
  rw [pts_spec]
  by_cases c : pts w h a = true
  · have q := pts_iff.mp c
    have m := move_un (dx := dx) (dy := dy) (w := w) (h := h) (by omega) (by omega) h1
    rw [if_pos c, if_pos c, shown_bytes, m]
    have e := congrArg List.length m
    rw [List.length_map] at e
    rw [e]
  · rw [if_neg c, if_neg c]
    rfl
end Pm
namespace Wk
open PySem PySem.Spec PyProof.Rows L2
/-! ### the text: the i-th statement of the top -/
def topS (i : Nat) : Stmt := PySem.Challenge.pw_paintsheets_s11_expose.main.body.getD i (.Pass ⟨0, 0, 0, 0⟩)
abbrev sSide : Stmt := topS 7
theorem scSide : FnScope ["number"] ["number"] (defScope sSide) := ⟨rfl, rfl, rfl, by decide +kernel, rfl, by decide +kernel, by decide +kernel⟩
/-! ### small words -/
theorem same_upd {H : Hp} {p : Addr} {o : HO} (h : H p = none) : Same H (upd H p o) := fun b x e => by
  rw [upd_ne (ne_of_none e h)]
  exact e
theorem line_le {n m : Nat} (h : n ≤ m) (hm : m ≤ 16777216 := by decide) : n ≤ sizeLine := by
  rw [sizeLine_eq]
  omega
theorem line_lt {n m : Nat} (h : n ≤ m) (hm : m < 16777216 := by decide) : n < sizeLine := by
  rw [sizeLine_eq]
  omega
theorem int_at {ns : List Int} {i : Nat} {y : V} (h : (ns.map V.int)[i]? = some y) : ∃ z, ns[i]? = some z ∧ y = .int z := by
  rw [List.getElem?_map] at h
  cases e : ns[i]? with
  | none =>
    rw [e] at h
    cases h
  | some z =>
    rw [e] at h
    exact ⟨z, rfl, (Option.some.inj h).symm⟩
theorem at_int {ns : List Int} {i : Nat} {z : Int} (h : ns[i]? = some z) : (ns.map V.int)[i]? = some (.int z) := by
  rw [List.getElem?_map, h]
  rfl
theorem take_more {α : Type} {l : List α} {i : Nat} {x : α} (h : l[i]? = some x) : l.take (i + 1) = l.take i ++ [x] := by
  rw [List.take_add_one, h]
  rfl
theorem some_eq {l : List Int} {i : Nat} {z : Int} (h : l[i]? = some z) : l.getD i 0 = z := by
  rw [List.getD_eq_getElem?_getD, h]
  rfl
theorem eq_int {i j : Int} : decide (V.int i = V.int j) = decide (i = j) := by
  by_cases c : i = j
  · subst c
    simp
  · rw [decide_eq_false c, decide_eq_false (fun q => c (V.int.inj q))]
section
variable {P : Program} {w : World} {K : PySem.W.Frag} {mg : Str → Option Value} {base : Heap}
/-! ### is_side -/
def spSide : Sp := fun vs H Q _ => ∃ n : Int, vs = [.int n] ∧ Q (.bl (Pm.side n)) H
theorem ok_side {f : Addr} {fd : FuncData} {t : Tok} (F : Fun K "is_side" "is_side" sSide f fd) (mM : mg "MOST_SIDE" = some (.int 256 t)) : FnOk P w K mg base CX0 1 f fd ["number"] spSide := by
  refine F.ok scSide (fun vs H Q E h => ?_) (fun cdv A outer s H vs Q E hr h => ?_)
  · obtain ⟨n, rfl, _⟩ := h
    rfl
  · obtain ⟨n, rfl, q⟩ := h
    refine ⟨_, pss_one (ps_ret (pe_and (pe_cmpR op_le pe_int (pv 0) (nomark _)) (pe_one (pe_cmpR op_le (pv 0) (pe_glob (v := .int 256) (by rfl) mM ⟨_, rfl⟩) (nomark _))))), ?_⟩
    refine ⟨_, rfl, _, _, rfl, rfl, _, rfl, ite2 (fun c => ?_) (fun c => ?_)⟩
    · refine ⟨_, rfl, _, _, rfl, rfl, ?_⟩
      have e : Pm.side n = decide (n ≤ 256) := by
        unfold Pm.side
        rw [c, Bool.true_and]
      rw [e] at q
      exact q
    · have e : Pm.side n = false := by
        unfold Pm.side
        rw [Bool.eq_false_iff.mpr c, Bool.false_and]
      rw [e] at q
      exact q
end
end Wk
namespace Wk
open PySem PySem.Spec PyProof.Rows L2
abbrev sPts : Stmt := topS 12
theorem scPts : FnScope ["w", "h", "row"] ["w", "h", "row"] (defScope sPts) := ⟨rfl, rfl, rfl, by decide +kernel, rfl, by decide +kernel, by decide +kernel⟩
section
variable {P : Program} {w : World} {K : PySem.W.Frag} {mg : Str → Option Value} {base : Heap}
/-! ### are_points -/
def spPts (K : PySem.W.Frag) : Sp := fun vs H Q _ => ∃ (w h : Int) (a : Addr) (l : List Int), vs = [.int w, .int h, .ref a] ∧ SqL K H a (l.map V.int) ∧ Q (.bl (Pm.pts w h l)) H
theorem ok_pts {f fI : Addr} {fd fdI : FuncData} (F : Fun K "are_points" "are_points" sPts f fd) (GI : FnOk P w K mg base CX0 1 fI fdI ["number"] spSide) (gI : mg "is_side" = some (.ref fI)) (kI : PySem.W.keepIn K (.ref fI) = true) (bI : Binds K fdI ["number"] []) (mL : mg "len" = none) :
    FnOk P w K mg base CX0 2 f fd ["w", "h", "row"] (spPts K) := by
  refine F.ok scPts (fun vs H Q E h => ?_) (fun cdv A outer s H vs Q E hr h => ?_)
  · obtain ⟨w, h, a, l, rfl, _⟩ := h
    rfl
  · obtain ⟨w, h, a, l, rfl, hS, q⟩ := h
    refine ⟨_, pss_one (ps_ret (pe_and (pe_call GI hr (by rfl) gI kI bI .nil pass0 (pa_cons (pv 0) pa_nil)) (pe_and (pe_call GI hr (by rfl) gI kI bI .nil pass0 (pa_cons (pv 1) pa_nil))
      (pe_one (pe_cmpR op_eq (pe_callB call_len_seq (by rfl) mL PySem.boot_len (pa_cons (pv 2) pa_nil)) (pe_op op_mul (pv 0) (pv 1)) (nomark _)))))), ?_⟩
    have e0 : Pm.pts w h l = (Pm.side w && (Pm.side h && decide ((l.length : Int) = w * h))) := rfl
    refine ⟨_, rfl, w, rfl, _, rfl, ite2 (fun c1 => ?_) (fun c1 => ?_)⟩
    · rw [c1, Bool.true_and] at e0
      refine ⟨_, rfl, h, rfl, _, rfl, ite2 (fun c2 => ?_) (fun c2 => ?_)⟩
      · rw [c2, Bool.true_and] at e0
        have b1 := Pm.side_iff.mp c1
        refine ⟨_, rfl, a, _, rfl, .inl hS, _, rfl, _, rfl, w, h, rfl, rfl, .inl ⟨by omega, by omega⟩, rfl, ?_⟩
        rw [eq_int, List.length_map, ← e0]
        exact q
      · rw [Bool.eq_false_iff.mpr c2, Bool.false_and] at e0
        rw [e0] at q
        exact q
    · rw [Bool.eq_false_iff.mpr c1, Bool.false_and] at e0
      rw [e0] at q
      exact q
end
end Wk
namespace Wk
open PySem PySem.Spec PyProof.Rows L2
theorem getD_at {l : List Int} {i : Nat} (h : i < l.length) : l[i]? = some (l.getD i 0) := by
  rw [List.getD_eq_getElem?_getD, List.getElem?_eq_getElem h]
  rfl
theorem step_take {l : List Int} {i : Nat} {y : Int} (h : l[i]? = some y) : (l.take i).map V.int ++ [V.int y] = (l.take (i + 1)).map V.int := by
  rw [take_more h, List.map_append]
  rfl
theorem step_takeB {l : List Bool} {i : Nat} {y : Bool} (h : l[i]? = some y) : (l.take i).map V.bl ++ [V.bl y] = (l.take (i + 1)).map V.bl := by
  rw [take_more h, List.map_append]
  rfl
/-- a list D made behind H grows: what was tracked in H stands -/
theorem same_grow {H H' : Hp} {D : Addr} {o : HO} (s : Same H H') (n : H D = none) : Same H (upd H' D o) := fun b x e => by
  rw [upd_ne (ne_of_none e n)]
  exact s b x e
theorem take_len {l : List Int} {i m : Nat} (h : l.length ≤ m) : ((l.take i).map V.int).length ≤ m := by
  rw [List.length_map, List.length_take]
  omega
theorem lt_len {l : List Int} {i : Nat} {z : Int} (h : l[i]? = some z) : i < l.length := (List.getElem?_eq_some_iff.mp h).1
theorem yes_of {σ : L2.St} {H : Hp} {A B : Hp → Prop} (h : A H) : tYes σ H (fun b H3 => if b = true then A H3 else B H3) := by
  show (if true = true then A H else B H)
  rw [if_pos rfl]
  exact h
end Wk
namespace Wk
open PySem PySem.Spec PyProof.Rows L2
abbrev sFilm : Stmt := topS 13
theorem scFilm : FnScope ["w", "h", "film", "number"] ["w", "h", "film"] (defScope sFilm) := ⟨rfl, rfl, rfl, by decide +kernel, rfl, by decide +kernel, by decide +kernel⟩
section
variable {P : Program} {w : World} {K : PySem.W.Frag} {mg : Str → Option Value} {base : Heap}
/-! ### is_film -/
def spFilm (K : PySem.W.Frag) : Sp := fun vs H Q _ => ∃ (w h : Int) (a : Addr) (l : List Int), vs = [.int w, .int h, .ref a] ∧ SqL K H a (l.map V.int) ∧ l.length ≤ 100000 ∧ ∀ H' : Hp, Same H H' → Q (.bl (Pm.film w h l)) H'
theorem ok_film {f fI : Addr} {fd fdI : FuncData} {t1 t2 : Tok} (F : Fun K "is_film" "is_film" sFilm f fd) (GI : FnOk P w K mg base CX0 1 fI fdI ["number"] spSide) (gI : mg "is_side" = some (.ref fI)) (kI : PySem.W.keepIn K (.ref fI) = true) (bI : Binds K fdI ["number"] []) (mL : mg "len" = none)
    (mA : mg "all" = none) (mC : mg "COLOURS" = some (.int 3 t1)) (mM : mg "MOST_LIGHT" = some (.int 65535 t2)) : FnOk P w K mg base CX0 2 f fd ["w", "h", "film"] (spFilm K) := by
  refine F.ok scFilm (fun vs H Q E h => ?_) (fun cdv A outer s H vs Q E hr h => ?_)
  · obtain ⟨w, h, a, l, rfl, _⟩ := h
    rfl
  · obtain ⟨w, h, a, l, rfl, hS, hl, q⟩ := h
    refine ⟨_, pss_cons (ps_if (PW.pt (pw_or (pt_not (pt_val (pe_call GI hr (by rfl) gI kI bI .nil pass0 (pa_cons (pv 0) pa_nil)))) (pw_or (pt_not (pt_val (pe_call GI hr (by rfl) gI kI bI .nil pass0 (pa_cons (pv 1) pa_nil))))
          (pw_or1 (pt_cmpR op_ne (pe_callB call_len_seq (by rfl) mL PySem.boot_len (pa_cons (pv 2) pa_nil)) (pe_op op_mul (pe_op op_mul (pe_glob (v := .int 3) (by rfl) mC ⟨_, rfl⟩) (pv 0)) (pv 1)) (nomark _))))))
        (pss_one (ps_ret pe_bl)) pss_nil)
      (pss_one (ps_ret (pe_callB (cr_all rfl) (by rfl) mA (by decide +kernel) (pa_cons (pe_lc (own := [("number", 3)]) (g := gName 3) (by rfl) scFilm.nd (pi_list (pv 2))
        (blkOk_by (own := [("number", 3)]) (N := ["w", "h", "film", "number"]) (sc := defScope sFilm) (by decide +kernel))
        (fun _ _ _ _ _ => pg_name (i := 3) scFilm.nd rfl (Or.inl rfl)) (fun _ _ _ _ _ => pts_nil)
        (fun _ _ _ _ _ => pe_cmpR op_le (pv 3) (pe_glob (v := .int 65535) (by rfl) mM ⟨_, rfl⟩) (nomark _))) pa_nil)))), ?_⟩
    have e0 : Pm.film w h l = (Pm.side w && (Pm.side h && (decide ((l.length : Int) = 3 * w * h) && l.all fun n => decide (n ≤ 65535)))) := rfl
    have q0 := q H (Same.refl H)
    refine ⟨_, rfl, w, rfl, _, rfl, ite2 (fun c1 => ?_) (fun c1 => ?_)⟩
    · rw [Bool.not_eq_true'] at c1
      rw [c1, Bool.false_and] at e0
      rw [e0] at q0
      exact iteT q0
    · rw [Bool.not_eq_true', Bool.not_eq_false] at c1
      rw [c1, Bool.true_and] at e0
      refine ⟨_, rfl, h, rfl, _, rfl, ite2 (fun c2 => ?_) (fun c2 => ?_)⟩
      · rw [Bool.not_eq_true'] at c2
        rw [c2, Bool.false_and] at e0
        rw [e0] at q0
        exact iteT q0
      · rw [Bool.not_eq_true', Bool.not_eq_false] at c2
        rw [c2, Bool.true_and] at e0
        have b1 := Pm.side_iff.mp c1
        have b2 := Pm.side_iff.mp c2
        refine ⟨_, rfl, a, _, rfl, .inl hS, _, rfl, _, _, rfl, rfl, .inl ⟨by decide, by decide⟩, _, rfl, _, _, rfl, rfl, .inl ⟨by omega, by omega⟩, rfl, _, rfl, ite2 (fun c3 => ?_) (fun c3 => ?_)⟩
        · rw [eq_int, List.length_map, Bool.not_eq_true'] at c3
          rw [c3, Bool.false_and] at e0
          rw [e0] at q0
          exact q0
        · rw [eq_int, List.length_map, Bool.not_eq_true', Bool.not_eq_false] at c3
          rw [c3, Bool.true_and] at e0
          refine ⟨_, rfl, a, rfl, ⟨_, hS⟩, fun D nD => lc_it (walk_list (K := K) (a := a) (xs := l.map V.int))
            (fun i H' => Same H H' ∧ H' D = some (.lst (((l.map fun n => decide (n ≤ 65535)).take i).map V.bl))) ⟨same_upd nD, upd_same⟩ (fun i H' _ hh => hh.1.seq hS) ?_ ?_⟩
          · rintro i x H1 H2 hi ⟨sm, hD⟩ ⟨rfl, g1⟩
            obtain ⟨z, h1, rfl⟩ := int_at g1
            have st : (l.map fun n => decide (n ≤ 65535))[i]? = some (decide (z ≤ 65535)) := by
              rw [List.getElem?_map, h1]
              rfl
            refine ⟨rfl, yes_of ⟨_, rfl, _, _, rfl, rfl, _, hD, line_lt (m := 100000) ?_, same_grow sm nD, by rw [upd_same, step_takeB st]⟩⟩
            rw [List.length_map, List.length_take, List.length_map]
            omega
          · rintro H1 ⟨sm, hD⟩
            rw [List.length_map, List.take_of_length_le (by rw [List.length_map]; exact Nat.le_refl _)] at hD
            refine ⟨D, _, rfl, SqL.of hD, ?_⟩
            have ea : (l.map fun n => decide (n ≤ 65535)).all id = l.all fun n => decide (n ≤ 65535) := by
              rw [List.all_map]
              rfl
            rw [ea, ← e0]
            exact q H1 sm
end
end Wk
namespace Wk
open PySem PySem.Spec PyProof.Rows L2
abbrev sLo : Stmt := topS 3
theorem scLo : FnScope ["model", "paint", "colour"] ["model", "paint", "colour"] (defScope sLo) := ⟨rfl, rfl, rfl, by decide +kernel, rfl, by decide +kernel, by decide +kernel⟩
abbrev sExp : Stmt := topS 4
theorem scExp : FnScope ["film", "points", "model", "times", "many", "found", "colour", "number", "paint", "light"] ["film", "points", "model", "times"] (defScope sExp) := ⟨rfl, rfl, rfl, by decide +kernel, rfl, by decide +kernel, by decide +kernel⟩
abbrev sAns : Stmt := topS 14
theorem scAns : FnScope ["w", "h", "e", "film", "a", "model"] ["w", "h", "e", "film", "a", "model"] (defScope sAns) := ⟨rfl, rfl, rfl, by decide +kernel, rfl, by decide +kernel, by decide +kernel⟩
def eTop (fl l md : List Int) (e : Int) (k : Nat) : List Int := (List.range k).flatMap fun c => Pm.exposeRow fl l md e c
theorem erow_len (fl l md : List Int) (e : Int) (c : Nat) : (Pm.exposeRow fl l md e c).length = l.length := by
  unfold Pm.exposeRow
  rw [List.length_map, List.length_range]
theorem eTop_succ (fl l md : List Int) (e : Int) (k : Nat) : eTop fl l md e (k + 1) = eTop fl l md e k ++ Pm.exposeRow fl l md e k := by
  unfold eTop
  rw [List.range_succ, List.flatMap_append, List.flatMap_singleton]
theorem eTop_len (fl l md : List Int) (e : Int) : ∀ k : Nat, (eTop fl l md e k).length = k * l.length
  | 0 => by simp [eTop]
  | k + 1 => by rw [eTop_succ, List.length_append, eTop_len fl l md e k, erow_len, Nat.succ_mul]
section
variable {P : Program} {w : World} {K : PySem.W.Frag} {mg : Str → Option Value} {base : Heap}
/-! ### light_of -/
def spLo (K : PySem.W.Frag) : Sp := fun vs H Q _ => ∃ (a : Addr) (md : List Int) (p : Int) (c : Nat), vs = [.ref a, .int p, .int (c : Int)] ∧ SqL K H a (md.map V.int) ∧ md.length = 768 ∧ 0 ≤ p ∧ p ≤ 255 ∧ c < 3 ∧ Q (.int (Pm.lightAt md p c)) H
theorem ok_lo {f : Addr} {fd : FuncData} {t : Tok} (F : Fun K "light_of" "light_of" sLo f fd) (mC : mg "COLOURS" = some (.int 3 t)) : FnOk P w K mg base CX0 1 f fd ["model", "paint", "colour"] (spLo K) := by
  refine F.ok scLo (fun vs H Q E h => ?_) (fun cdv A outer s H vs Q E hr h => ?_)
  · obtain ⟨a, md, p, c, rfl, _⟩ := h
    rfl
  · obtain ⟨a, md, p, c, rfl, hA, hm, hp0, hp, hc, q⟩ := h
    refine ⟨_, pss_one (ps_ret (pe_ix ix_list (pv 0) (pe_op op_add (pe_op op_mul (pe_glob (v := .int 3) (by rfl) mC ⟨_, rfl⟩) (pv 1)) (pv 2)) (fun _ _ => rfl))), ?_⟩
    exact ⟨_, rfl, _, rfl, _, _, rfl, rfl, .inl ⟨by decide, by decide⟩, _, rfl, _, _, rfl, rfl, a, _, _, _, rfl, rfl, hA, at_of (j := (3 * p + (c : Int)).toNat) (by omega) (at_int (getD_at (by omega))), q⟩
/-! ### exposed -/
def spExp (K : PySem.W.Frag) : Sp := fun vs H Q _ => ∃ (fa a ma : Addr) (fl l md : List Int) (e : Int), vs = [.ref fa, .ref a, .ref ma, .int e] ∧ SqL K H fa (fl.map V.int) ∧ SqL K H a (l.map V.int) ∧ SqL K H ma (md.map V.int) ∧ l.length ≤ 100000 ∧ fl.length = 3 * l.length ∧ md.length = 768 ∧ Pm.Byt l ∧ 0 ≤ e ∧ e ≤ 64 ∧
  ∀ (H' : Hp) (p : Addr), H' p = some (.lst ((Pm.exposeL fl l md e).map V.int)) → Q (.ref p) H'
theorem ok_exp {f fA : Addr} {fd fdA : FuncData} {t1 t2 : Tok} (F : Fun K "exposed" "exposed" sExp f fd) (GA : FnOk P w K mg base CX0 1 fA fdA ["model", "paint", "colour"] (spLo K)) (gA : mg "light_of" = some (.ref fA)) (kA : PySem.W.keepIn K (.ref fA) = true) (bA : Binds K fdA ["model", "paint", "colour"] [])
    (mR : mg "range" = none) (mE : mg "enumerate" = none) (mL : mg "len" = none) (mM : mg "min" = none) (mC : mg "COLOURS" = some (.int 3 t1)) (mF : mg "MOST_LIGHT" = some (.int 65535 t2)) : FnOk P w K mg base CX0 2 f fd ["film", "points", "model", "times"] (spExp K) := by
  refine F.ok scExp (fun vs H Q E h => ?_) (fun cdv A outer s H vs Q E hr h => ?_)
  · obtain ⟨fa, a, ma, fl, l, md, e, rfl, _⟩ := h
    rfl
  · obtain ⟨fa, a, ma, fl, l, md, e, rfl, hF, hA, hM, hl, hfl, hmd, hby, he0, he, q⟩ := h
    refine ⟨_, pss_cons (ps_set (i := 4) scExp.nd rfl (.inl rfl) (pe_callB call_len_seq (by rfl) mL PySem.boot_len (pa_cons (pv 1) pa_nil)))
      (pss_cons (ps_set (i := 5) scExp.nd rfl (.inl rfl) (pe_lst pa_nil))
      (pss_cons (ps_for PassesOwn.never rfl (pi_range1 (by rfl) mR (pa_cons (pe_glob (v := .int 3) (by rfl) mC ⟨_, rfl⟩) pa_nil)) (pg_name (i := 6) scExp.nd rfl (.inl rfl))
        (pss_one (ps_for PassesOwn.never rfl (pi_enum (by rfl) mE (pa_cons (pv 1) pa_nil)) (pg_tup rfl (pgs_cons (pg_name (i := 7) scExp.nd rfl (.inl rfl)) (pgs_cons (pg_name (i := 8) scExp.nd rfl (.inl rfl)) pgs_nil)))
          (pss_cons (ps_set (i := 9) scExp.nd rfl (.inl rfl) (pe_op op_add (pe_ix ix_list (pv 0) (pe_op op_add (pe_op op_mul (pv 6) (pv 4)) (pv 7)) (fun _ _ => rfl))
              (pe_op op_mul (pv 3) (pe_call GA hr (by rfl) gA kA bA .nil pass0 (pa_cons (pv 2) (pa_cons (pv 8) (pa_cons (pv 6) pa_nil)))))))
          (pss_one (ps_expr (pe_bm PySem.F.plainAttrs_list PySem.F.slot_list_append PySem.F.type_list_append mt_append (pv 5) (pa_cons (pe_callB (call_min2 rfl) (by rfl) mM (by decide +kernel) (pa_cons (pe_glob (v := .int 65535) (by rfl) mF ⟨_, rfl⟩) (pa_cons (pv 9) pa_nil))) pa_nil))))))))
      (pss_one (ps_ret (pv 5))))), ?_⟩
    refine ⟨_, rfl, a, _, rfl, .inl hA, Nat.zero_le _, fun o no => ?_⟩
    rw [List.length_map]
    refine ⟨3, rfl, by omega, by omega, for_range (lo := 0) (n := 3)
      (fun i σ H' => ∃ y6 y7 y8 y9, σ = [some (.ref fa), some (.ref a), some (.ref ma), some (.int e), some (.int (l.length : Nat)), some (.ref o), y6, y7, y8, y9] ∧ Same H H' ∧ H' o = some (.lst ((eTop fl l md e i).map V.int))) ⟨none, none, none, none, rfl, same_upd no, upd_same⟩ ?_ ?_⟩
    · rintro i σ H1 hi ⟨y6, y7, y8, y9, rfl, sm, ho⟩
      have lenT := eTop_len fl l md e i
      have bT : i * l.length ≤ 3 * 100000 := Nat.mul_le_mul (by omega) hl
      refine ⟨_, rfl, a, _, rfl, sm.seq hA, for_it (walk_enum (K := K) (a := a) (xs := l.map V.int))
        (fun k σ H' => ∃ y7 y8 y9, σ = [some (.ref fa), some (.ref a), some (.ref ma), some (.int e), some (.int (l.length : Nat)), some (.ref o), some (.int (i : Int)), y7, y8, y9] ∧ Same H H' ∧ H' o = some (.lst ((eTop fl l md e i ++ (Pm.exposeRow fl l md e i).take k).map V.int)))
        ⟨y7, y8, y9, by rw [Int.zero_add]; rfl, sm, by rw [List.take_zero, List.append_nil]; exact ho⟩ (fun k σ H' _ hh => ?_) ?_ ?_⟩
      · obtain ⟨_, _, _, _, sm2, _⟩ := hh
        exact sm2.seq hA
      · rintro k x σ H2 H3 hk ⟨y7, y8, y9, rfl, sm2, ho2⟩ ⟨T, x1, x2, rfl, nT, rfl, g1, g2⟩
        have g1' : x1 = .int (k : Nat) := (Option.some.inj g1).symm
        subst g1'
        obtain ⟨z, h2, rfl⟩ := int_at g2
        have hz := hby.get h2
        have hk' := lt_len h2
        have sm3 : Same H (upd H2 T (.tup [.int (k : Nat), .int z])) := sm2.trans (same_upd nT)
        have ho3 : (upd H2 T (.tup [.int (k : Nat), .int z])) o = some (.lst ((eTop fl l md e i ++ (Pm.exposeRow fl l md e i).take k).map V.int)) := (upd_ne (ne_of_none ho2 nT)).trans ho2
        have ix : i * l.length + k < fl.length := by
          have : (i + 1) * l.length ≤ 3 * l.length := Nat.mul_le_mul_right _ (by omega)
          rw [Nat.succ_mul] at this
          omega
        have st : (Pm.exposeRow fl l md e i)[k]? = some (Pm.grow (fl.getD (i * l.length + k) 0) e (Pm.lightAt md z i)) := by
          unfold Pm.exposeRow
          rw [List.getElem?_map, List.getElem?_range hk']
          show some (Pm.grow _ e (Pm.lightAt md (l.getD k 0) i)) = _
          rw [some_eq h2]
        refine ⟨T, _, rfl, SqT.of upd_same, rfl, _, _, rfl, _, _, rfl, rfl, ?_⟩
        refine ⟨_, rfl, _, rfl, _, rfl, (i : Int), ((l.length : Nat) : Int), rfl, rfl, .inl ⟨by omega, by omega⟩, _, rfl, _, _, rfl, rfl, fa, _, _, _, rfl, rfl, sm3.seq hF, at_of (j := i * l.length + k) (by push_cast; rfl) (at_int (getD_at ix)), ?_⟩
        refine ⟨_, rfl, _, rfl, _, rfl, _, rfl, ma, md, z, i, rfl, sm3.seq hM, hmd, hz.1, hz.2, hi, e, _, rfl, rfl, .inl ⟨by omega, by omega⟩, _, _, rfl, rfl, ?_⟩
        refine ⟨_, rfl, .inl ⟨rfl, _, SqL.of ho3⟩, _, rfl, _, _, rfl, o, _, _, rfl, rfl, ho3, line_lt (m := 1000000) ?_, ?_⟩
        · rw [List.length_map, List.length_append, lenT, List.length_take, erow_len]
          omega
        · refine ⟨_, _, _, rfl, same_grow sm3 no, ?_⟩
          rw [upd_same, take_more st]
          simp only [List.map_append, List.append_assoc]
          rfl
      · rintro σ H2 ⟨y7, y8, y9, rfl, sm2, ho2⟩
        refine ⟨_, _, _, _, rfl, sm2, ?_⟩
        rw [ho2, eTop_succ, List.take_of_length_le]
        rw [List.length_map, erow_len]
        exact Nat.le_refl _
    · rintro σ H1 ⟨y6, y7, y8, y9, rfl, sm, ho⟩
      exact ⟨_, rfl, q H1 o ho⟩
def spAns (K : PySem.W.Frag) : Sp := fun vs H Q _ => ∃ (w h e : Int) (fa : Addr) (fl : List Int) (a : Addr) (l : List Int) (ma : Addr) (md : List Int), vs = [.int w, .int h, .int e, .ref fa, .ref a, .ref ma] ∧ SqL K H fa (fl.map V.int) ∧ SqL K H a (l.map V.int) ∧ SqL K H ma (md.map V.int) ∧ fl.length ≤ 100000 ∧ l.length ≤ 100000 ∧ Pm.Byt l ∧ 0 ≤ e ∧
  ∀ (H' : Hp) (q : Addr), H' q = some (.lst ((Pm.expose w h e fl l md).map V.int)) → Q (.ref q) H'
theorem ok_ans {f fP fI fL : Addr} {fd fdP fdI fdL : FuncData} {t1 t2 t3 : Tok} (F : Fun K "expose" "expose" sAns f fd) (GP : FnOk P w K mg base CX0 2 fP fdP ["w", "h", "row"] (spPts K)) (gP : mg "are_points" = some (.ref fP)) (kP : PySem.W.keepIn K (.ref fP) = true) (bP : Binds K fdP ["w", "h", "row"] [])
    (GI : FnOk P w K mg base CX0 2 fI fdI ["w", "h", "film"] (spFilm K)) (gI : mg "is_film" = some (.ref fI)) (kI : PySem.W.keepIn K (.ref fI) = true) (bI : Binds K fdI ["w", "h", "film"] [])
    (GL : FnOk P w K mg base CX0 2 fL fdL ["film", "points", "model", "times"] (spExp K)) (gL : mg "exposed" = some (.ref fL)) (kL : PySem.W.keepIn K (.ref fL) = true) (bL : Binds K fdL ["film", "points", "model", "times"] [])
    (mB : mg "BAD" = some (.int (-1) t1)) (mM : mg "MODEL" = some (.int 768 t2)) (mT : mg "MOST_TIMES" = some (.int 64 t3)) (mL : mg "len" = none) : FnOk P w K mg base CX0 3 f fd ["w", "h", "e", "film", "a", "model"] (spAns K) := by
  refine F.ok scAns (fun vs H Q E h => ?_) (fun cdv A outer s H vs Q E hr h => ?_)
  · obtain ⟨w, h, e, fa, fl, a, l, ma, md, rfl, _⟩ := h
    rfl
  · obtain ⟨w, h, e, fa, fl, a, l, ma, md, rfl, hF, hA, hM, hfl, hl, hby, he0, q⟩ := h
    refine ⟨_, pss_cons (ps_if (PW.pt (pw_or (pt_not (pt_val (pe_call GP hr (by rfl) gP kP bP .nil pass0 (pa_cons (pv 0) (pa_cons (pv 1) (pa_cons (pv 4) pa_nil)))))) (pw_or (pt_not (pt_val (pe_call GI hr (by rfl) gI kI bI .nil pass0 (pa_cons (pv 0) (pa_cons (pv 1) (pa_cons (pv 3) pa_nil))))))
          (pw_or (pt_cmpR op_ne (pe_callB call_len_seq (by rfl) mL PySem.boot_len (pa_cons (pv 5) pa_nil)) (pe_glob (v := .int 768) (by rfl) mM ⟨_, rfl⟩) (nomark _)) (pw_or1 (pt_cmpR op_gt (pv 2) (pe_glob (v := .int 64) (by rfl) mT ⟨_, rfl⟩) (nomark _)))))))
        (pss_one (ps_ret (pe_lst (pa_cons (pe_glob (v := .int (-1)) (by rfl) mB ⟨_, rfl⟩) pa_nil)))) pss_nil)
      (pss_one (ps_ret (pe_call GL hr (by rfl) gL kL bL .nil pass0 (pa_cons (pv 3) (pa_cons (pv 4) (pa_cons (pv 5) (pa_cons (pv 2) pa_nil))))))), ?_⟩
    have e0 : Pm.expose w h e fl l md = if (Pm.pts w h l && (Pm.film w h fl && (decide (md.length = 768) && decide (e ≤ 64)))) = true then Pm.exposeL fl l md e else [-1] := rfl
    have bad : ∀ H1, Pm.expose w h e fl l md = [-1] → ∀ (r : Addr), H1 r = none → Q (.ref r) (upd H1 r (.lst [.int (-1)])) := fun H1 e r nr => q _ r (by rw [upd_same, e]; rfl)
    refine ⟨_, rfl, _, rfl, _, rfl, w, h, a, l, rfl, hA, _, rfl, ite2 (fun c1 => ?_) (fun c1 => ?_)⟩
    · rw [Bool.not_eq_true'] at c1
      rw [c1, Bool.false_and, if_neg Bool.false_ne_true] at e0
      exact iteT ⟨line_le (m := 1) (by simp), bad _ e0⟩
    · rw [Bool.not_eq_true', Bool.not_eq_false] at c1
      rw [c1, Bool.true_and] at e0
      refine ⟨_, rfl, _, rfl, _, rfl, w, h, fa, fl, rfl, hF, hfl, fun H1 sm => ⟨_, rfl, ite2 (fun c2 => ?_) (fun c2 => ?_)⟩⟩
      · rw [Bool.not_eq_true'] at c2
        rw [c2, Bool.false_and, if_neg Bool.false_ne_true] at e0
        exact iteT ⟨line_le (m := 1) (by simp), bad _ e0⟩
      · rw [Bool.not_eq_true', Bool.not_eq_false] at c2
        rw [c2, Bool.true_and] at e0
        refine ⟨_, rfl, ma, _, rfl, .inl (sm.seq hM), rfl, _, rfl, ite2 (fun c3 => ?_) (fun c3 => ?_)⟩
        · rw [eq_int, List.length_map, Bool.not_eq_true', decide_eq_false_iff_not] at c3
          rw [if_neg (by rw [Bool.and_eq_true, decide_eq_true_iff]; omega)] at e0
          exact iteT ⟨line_le (m := 1) (by simp), bad _ e0⟩
        · rw [eq_int, List.length_map, Bool.not_eq_true', Bool.not_eq_false, decide_eq_true_iff] at c3
          have hm : md.length = 768 := by omega
          rw [decide_eq_true hm, Bool.true_and] at e0
          refine ⟨_, rfl, _, _, rfl, rfl, _, rfl, ite2 (fun c4 => ?_) (fun c4 => ?_)⟩
          · rw [decide_eq_true_iff] at c4
            rw [if_neg (by rw [decide_eq_true_iff]; omega)] at e0
            exact ⟨line_le (m := 1) (by simp), bad _ e0⟩
          · rw [decide_eq_true_iff] at c4
            rw [if_pos (by rw [decide_eq_true_iff]; omega)] at e0
            have p1 := (Pm.pts_iff.mp c1).2.2
            have p2 := (Pm.film_iff.mp c2).2.2.1
            have p3 : fl.length = 3 * l.length := by
              rw [Int.mul_assoc, ← p1] at p2
              omega
            exact ⟨_, rfl, _, rfl, _, rfl, _, rfl, fa, a, ma, fl, l, md, e, rfl, sm.seq hF, sm.seq hA, sm.seq hM, hl, p3, hm, hby, he0, by omega, fun H2 p hp => q H2 p (by rw [hp, e0])⟩
end
end Wk
namespace Wk
open PySem PySem.Spec PyProof.Rows L2
theorem all_mk {P : Program} {w : World} {K : PySem.W.Frag} {h : Heap} {mg : Str → Option Value} {fa f1 f2 f3 f4 f5 f6 : Addr} (X : K.In h) (G : h.Ns mainGlobals mg) (hfa : mg "expose" = some (.ref fa))
    {od1 an1 od2 an2 od3 an3 od4 an4 od5 an5 od6 an6 : Option Addr} {sl1 sl2 sl3 sl4 sl5 sl6 : Array (Option Value)} {oc1 kV1 dc1 pm1 cd1 ct1 oc2 kV2 dc2 pm2 cd2 ct2 oc3 kV3 dc3 pm3 cd3 ct3 oc4 kV4 dc4 pm4 cd4 ct4 oc5 kV5 dc5 pm5 cd5 ct5 oc6 kV6 dc6 pm6 cd6 ct6 : Value} {t0 t1 t2 t3 t4 t5 : Tok}
    (a1 : PySem.W.nsIn K mainGlobals "light_of" = some (some (.ref f1))) (l1 : K.lookup f1 = some ⟨oc1, od1, .func (PySem.W.fnOf "light_of" "light_of" (defArgs sLo) (defBody sLo) (defScope sLo) .none kV1 dc1 pm1 an1 cd1 ct1), sl1⟩) (c1 : PySem.W.codeIn K cd1 "light_of" = true) (k1 : PySem.W.keepIn K (.ref f1) = true)
    (a2 : PySem.W.nsIn K mainGlobals "exposed" = some (some (.ref f2))) (l2 : K.lookup f2 = some ⟨oc2, od2, .func (PySem.W.fnOf "exposed" "exposed" (defArgs sExp) (defBody sExp) (defScope sExp) .none kV2 dc2 pm2 an2 cd2 ct2), sl2⟩) (c2 : PySem.W.codeIn K cd2 "exposed" = true) (k2 : PySem.W.keepIn K (.ref f2) = true)
    (a3 : PySem.W.nsIn K mainGlobals "is_side" = some (some (.ref f3))) (l3 : K.lookup f3 = some ⟨oc3, od3, .func (PySem.W.fnOf "is_side" "is_side" (defArgs sSide) (defBody sSide) (defScope sSide) .none kV3 dc3 pm3 an3 cd3 ct3), sl3⟩) (c3 : PySem.W.codeIn K cd3 "is_side" = true) (k3 : PySem.W.keepIn K (.ref f3) = true)
    (a4 : PySem.W.nsIn K mainGlobals "are_points" = some (some (.ref f4))) (l4 : K.lookup f4 = some ⟨oc4, od4, .func (PySem.W.fnOf "are_points" "are_points" (defArgs sPts) (defBody sPts) (defScope sPts) .none kV4 dc4 pm4 an4 cd4 ct4), sl4⟩) (c4 : PySem.W.codeIn K cd4 "are_points" = true) (k4 : PySem.W.keepIn K (.ref f4) = true)
    (a5 : PySem.W.nsIn K mainGlobals "is_film" = some (some (.ref f5))) (l5 : K.lookup f5 = some ⟨oc5, od5, .func (PySem.W.fnOf "is_film" "is_film" (defArgs sFilm) (defBody sFilm) (defScope sFilm) .none kV5 dc5 pm5 an5 cd5 ct5), sl5⟩) (c5 : PySem.W.codeIn K cd5 "is_film" = true) (k5 : PySem.W.keepIn K (.ref f5) = true)
    (a6 : PySem.W.nsIn K mainGlobals "expose" = some (some (.ref f6))) (l6 : K.lookup f6 = some ⟨oc6, od6, .func (PySem.W.fnOf "expose" "expose" (defArgs sAns) (defBody sAns) (defScope sAns) .none kV6 dc6 pm6 an6 cd6 ct6), sl6⟩) (c6 : PySem.W.codeIn K cd6 "expose" = true) (k6 : PySem.W.keepIn K (.ref f6) = true)
    (u0 : PySem.W.nsIn K mainGlobals "COLOURS" = some (some (.int 3 t0)))
    (u1 : PySem.W.nsIn K mainGlobals "MOST_LIGHT" = some (some (.int 65535 t1)))
    (u2 : PySem.W.nsIn K mainGlobals "MOST_SIDE" = some (some (.int 256 t2)))
    (u3 : PySem.W.nsIn K mainGlobals "BAD" = some (some (.int (-1) t3)))
    (u4 : PySem.W.nsIn K mainGlobals "MOST_TIMES" = some (some (.int 64 t4)))
    (u5 : PySem.W.nsIn K mainGlobals "MODEL" = some (some (.int 768 t5)))
    (y0 : PySem.W.nsIn K mainGlobals "len" = some none)
    (y1 : PySem.W.nsIn K mainGlobals "range" = some none)
    (y2 : PySem.W.nsIn K mainGlobals "enumerate" = some none)
    (y3 : PySem.W.nsIn K mainGlobals "min" = some none)
    (y4 : PySem.W.nsIn K mainGlobals "all" = some none)
    : ∃ fd : FuncData, (∀ (s : Shared) (us : List Value), us.length = (["w", "h", "e", "film", "a", "model"] : List Str).length → BindsTo s fd ⟨us, []⟩ ((["w", "h", "e", "film", "a", "model"] : List Str).zip us)) ∧ ∀ base : Heap, K.In base → base.Ns mainGlobals mg → FnOk P w K mg base CX0 3 fa fd ["w", "h", "e", "film", "a", "model"] (spAns K) := by
  have e := hfa.symm.trans (PySem.W.mg_of X G a6)
  cases e
  have F_light_of := fun_mk (st := sLo) l1 c1 k1
  have g_light_of := PySem.W.mg_of X G a1
  have b_light_of := F_light_of.binds (ps := ["model", "paint", "colour"]) fun _ _ _ _ _ _ us hl => match us, hl with | [_, _, _], _ => rfl
  have F_exposed := fun_mk (st := sExp) l2 c2 k2
  have g_exposed := PySem.W.mg_of X G a2
  have b_exposed := F_exposed.binds (ps := ["film", "points", "model", "times"]) fun _ _ _ _ _ _ us hl => match us, hl with | [_, _, _, _], _ => rfl
  have F_is_side := fun_mk (st := sSide) l3 c3 k3
  have g_is_side := PySem.W.mg_of X G a3
  have b_is_side := F_is_side.binds (ps := ["number"]) fun _ _ _ _ _ _ us hl => match us, hl with | [_], _ => rfl
  have F_are_points := fun_mk (st := sPts) l4 c4 k4
  have g_are_points := PySem.W.mg_of X G a4
  have b_are_points := F_are_points.binds (ps := ["w", "h", "row"]) fun _ _ _ _ _ _ us hl => match us, hl with | [_, _, _], _ => rfl
  have F_is_film := fun_mk (st := sFilm) l5 c5 k5
  have g_is_film := PySem.W.mg_of X G a5
  have b_is_film := F_is_film.binds (ps := ["w", "h", "film"]) fun _ _ _ _ _ _ us hl => match us, hl with | [_, _, _], _ => rfl
  have F_expose := fun_mk (st := sAns) l6 c6 k6
  have g_expose := PySem.W.mg_of X G a6
  have b_expose := F_expose.binds (ps := ["w", "h", "e", "film", "a", "model"]) fun _ _ _ _ _ _ us hl => match us, hl with | [_, _, _, _, _, _], _ => rfl
  have v_COLOURS := PySem.W.mg_of X G u0
  have v_MOST_LIGHT := PySem.W.mg_of X G u1
  have v_MOST_SIDE := PySem.W.mg_of X G u2
  have v_BAD := PySem.W.mg_of X G u3
  have v_MOST_TIMES := PySem.W.mg_of X G u4
  have v_MODEL := PySem.W.mg_of X G u5
  have z_len := PySem.W.mg_none_of X G y0
  have z_range := PySem.W.mg_none_of X G y1
  have z_enumerate := PySem.W.mg_none_of X G y2
  have z_min := PySem.W.mg_none_of X G y3
  have z_all := PySem.W.mg_none_of X G y4
  exact ⟨PySem.W.fnOf "expose" "expose" (defArgs sAns) (defBody sAns) (defScope sAns) .none kV6 dc6 pm6 an6 cd6 ct6, fun s us hu => match us, hu with | [_, _, _, _, _, _], _ => .of_eq rfl, fun base _ _ => ok_ans F_expose (ok_pts F_are_points (ok_side F_is_side v_MOST_SIDE) g_is_side F_is_side.kp b_is_side z_len) g_are_points F_are_points.kp b_are_points (ok_film F_is_film (ok_side F_is_side v_MOST_SIDE) g_is_side F_is_side.kp b_is_side z_len z_all v_COLOURS v_MOST_LIGHT) g_is_film F_is_film.kp b_is_film (ok_exp F_exposed (ok_lo F_light_of v_COLOURS) g_light_of F_light_of.kp b_light_of z_range z_enumerate z_len z_min v_COLOURS v_MOST_LIGHT) g_exposed F_exposed.kp b_exposed v_BAD v_MODEL v_MOST_TIMES z_len⟩
end Wk
namespace Wk
open PySem.W
theorem in_int {lo hi z : Int} (h : Codec.inInt lo hi z = true) : lo ≤ z ∧ z ≤ hi := by
  unfold Codec.inInt at h
  rw [Bool.and_eq_true, decide_eq_true_iff, decide_eq_true_iff] at h
  exact h
theorem in_list {hi : Int} {most : Nat} {l : List Int} (h : Codec.inList 0 most (Codec.inInt 0 hi) l = true) : l.length ≤ most ∧ ∀ z, z ∈ l → 0 ≤ z ∧ z ≤ hi := by
  unfold Codec.inList Codec.inLen Codec.inNat at h
  rw [Bool.and_eq_true, Bool.and_eq_true, decide_eq_true_iff, decide_eq_true_iff] at h
  exact ⟨h.1.2, fun z hz => in_int (List.all_eq_true.mp h.2 z hz)⟩
end Wk
open PySem PySem.W PyProof.Rows
set_option maxRecDepth 100000 in
set_option maxHeartbeats 8000000 in
theorem PySem.Challenge.cw_paintsheets_s11_expose_holds : PySem.Challenge.rw_paintsheets_s11_expose.Holds := by
  w_on; k_headS; (case hw => exact ⟨[.int 1, .int 1, .int 1, .list [], .list [], .list []], by decide +kernel, by decide +kernel⟩)
  k_fillS
  refine L2.walk_specK (r := PySem.Challenge.rw_paintsheets_s11_expose) (k := 3) (CX := L2.CX0) (ps := ["w", "h", "e", "film", "a", "model"]) (sp := Wk.spAns) (by decide +kernel) rfl rfl ⟨rfl, by decide, by decide⟩ (fun w h Y => PySem.W.kIn_of Y) ?F ?S (fun _ _ _ _ z => z)
  case F =>
    intro w mg fa h Y KX G hmg
    refine' Wk.all_mk KX G hmg ?a1 ?l1 ?c1 ?k1 ?a2 ?l2 ?c2 ?k2 ?a3 ?l3 ?c3 ?k3 ?a4 ?l4 ?c4 ?k4 ?a5 ?l5 ?c5 ?k5 ?a6 ?l6 ?c6 ?k6 ?u0 ?u1 ?u2 ?u3 ?u4 ?u5 ?y0 ?y1 ?y2 ?y3 ?y4
    (case a1 => k_is)
    (case l1 => k_is)
    (case c1 => k_is)
    (case k1 => k_is)
    (case a2 => k_is)
    (case l2 => k_is)
    (case c2 => k_is)
    (case k2 => k_is)
    (case a3 => k_is)
    (case l3 => k_is)
    (case c3 => k_is)
    (case k3 => k_is)
    (case a4 => k_is)
    (case l4 => k_is)
    (case c4 => k_is)
    (case k4 => k_is)
    (case a5 => k_is)
    (case l5 => k_is)
    (case c5 => k_is)
    (case k5 => k_is)
    (case a6 => k_is)
    (case l6 => k_is)
    (case c6 => k_is)
    (case k6 => k_is)
    (case u0 => k_is)
    (case u1 => k_is)
    (case u2 => k_is)
    (case u3 => k_is)
    (case u4 => k_is)
    (case u5 => k_is)
    (case y0 => k_is)
    (case y1 => k_is)
    (case y2 => k_is)
    (case y3 => k_is)
    (case y4 => k_is)
  case S =>
    intro K H xs a hO hwi hask hx
    cases hx with
    | cons h0 hx =>
      cases h0
      cases hx with
      | cons h1 hx =>
        cases h1
        cases hx with
        | cons h2 hx =>
          cases h2
          cases hx with
          | cons h3 hx =>
            cases h3 with
            | lst s3 d3 =>
              have e3 := L2.ints_dw a.2.2.2.1 _ d3
              subst e3
              cases hx with
              | cons h4 hx =>
                cases h4 with
                | lst s4 d4 =>
                  have e4 := L2.ints_dw a.2.2.2.2.1 _ d4
                  subst e4
                  cases hx with
                  | cons h5 hx =>
                    cases h5 with
                    | lst s5 d5 =>
                      have e5 := L2.ints_dw a.2.2.2.2.2.1 _ d5
                      subst e5
                      cases hx
                      have q := hwi
                      have q0 := (Bool.and_eq_true_iff.mp q).1
                      replace q := (Bool.and_eq_true_iff.mp q).2
                      have n0 := Wk.in_int q0
                      have q1 := (Bool.and_eq_true_iff.mp q).1
                      replace q := (Bool.and_eq_true_iff.mp q).2
                      have n1 := Wk.in_int q1
                      have q2 := (Bool.and_eq_true_iff.mp q).1
                      replace q := (Bool.and_eq_true_iff.mp q).2
                      have n2 := Wk.in_int q2
                      have q3 := (Bool.and_eq_true_iff.mp q).1
                      replace q := (Bool.and_eq_true_iff.mp q).2
                      have m3 := (Wk.in_list q3).1
                      have b3 := (Wk.in_list q3).2
                      have q4 := (Bool.and_eq_true_iff.mp q).1
                      replace q := (Bool.and_eq_true_iff.mp q).2
                      have m4 := (Wk.in_list q4).1
                      have b4 := (Wk.in_list q4).2
                      have q5 := (Bool.and_eq_true_iff.mp q).1
                      replace q := (Bool.and_eq_true_iff.mp q).2
                      have m5 := (Wk.in_list q5).1
                      have b5 := (Wk.in_list q5).2
                      have e := Pm.expose_is (w := a.1) (h := a.2.1) (e := a.2.2.1) (fl := a.2.2.2.1) (a := a.2.2.2.2.1) (model := a.2.2.2.2.2.1) n2.1 (fun z hz => (b3 z hz).1) b4 b5
                      refine ⟨a.1, a.2.1, a.2.2.1, _, a.2.2.2.1, _, a.2.2.2.2.1, _, a.2.2.2.2.2.1, rfl, s3, s4, s5, (by omega), (by omega), b4, n2.1, fun H' p hp => ?_⟩
                      rw [← e] at hp
                      exact .lst (L2.SqL.of hp) (L2.dw_ints _)
#print axioms PySem.Challenge.cw_paintsheets_s11_expose_holds
