/-
  A machine that runs codes whose inputs are known: what it does. It holds of any program.
-/
import Derived.Test.YtloddmbbfkejcaaAbsX
namespace Go.Proofs.Ytloddmbbfkejcaa.Abs

def forceL {α β : Type} : List α → (List α → β) → β
  | [], k => k []
  | x :: xs, k => forceL xs fun ys => k (x :: ys)

theorem forceL_eq {α β : Type} : ∀ (l : List α) (k : List α → β), forceL l k = k l
  | [], _ => rfl
  | x :: xs, k => forceL_eq xs _

/-- What a block is, a slot's value: with quick tests. -/
def hgetF : Heap → Nat → Option Blk
  | [], _ => none
  | (i, b) :: t, j => match Nat.beq i j with
    | true => some b
    | false => hgetF t j

theorem hgetF_eq : ∀ (h : Heap) (j : Nat), hgetF h j = hget h j
  | [], _ => rfl
  | (i, b) :: t, j => by
    unfold hgetF hget
    by_cases e : i = j
    · subst e; rw [Nat.beq_refl]; simp
    · have : Nat.beq i j = false := by
        cases hb : Nat.beq i j with
        | false => rfl
        | true => exact absurd (Nat.eq_of_beq_eq_true hb) e
      rw [this, if_neg e]; exact hgetF_eq t j

def tgF : List (Nat × AV) → Nat → Option AV
  | [], _ => none
  | (i, v) :: t, j => match Nat.beq i j with
    | true => some v
    | false => tgF t j

theorem tgF_eq : ∀ (tm : List (Nat × AV)) (j : Nat), tgF tm j = tgetS tm j
  | [], _ => rfl
  | (i, b) :: t, j => by
    unfold tgF tgetS
    by_cases e : i = j
    · subst e; rw [Nat.beq_refl]; simp
    · have : Nat.beq i j = false := by
        cases hb : Nat.beq i j with
        | false => rfl
        | true => exact absurd (Nat.eq_of_beq_eq_true hb) e
      rw [this, if_neg e]; exact tgF_eq t j

def oeF (tm : List (Nat × AV)) : Operand → Option AV
  | .tmp t => tgF tm t
  | .const v => constS v
  | .global _ => none
  | .func f => some (.fn (.func f) [] [])

theorem oeF_spec {tm : List (Nat × AV)} {x : Operand} {v : AV} (h : oeF tm x = some v) : oevS tm x = some v := by
  cases x with
  | tmp t => exact (tgF_eq tm t).symm.trans h
  | const c => exact h
  | global g => exact h
  | func f => exact h

def oesF (tm : List (Nat × AV)) : List Operand → Option (List AV)
  | [] => some []
  | x :: t => match oeF tm x with
    | some v => match oesF tm t with
      | some r => some (v :: r)
      | none => none
    | none => none

theorem oesF_spec {tm : List (Nat × AV)} : ∀ {l : List Operand} {vs : List AV}, oesF tm l = some vs → oevsS tm l = some vs
  | [], _, h => h
  | x :: t, vs, h => by
    unfold oesF at h
    unfold oevsS
    split at h
    · rename_i v hv
      rw [oeF_spec hv]
      split at h
      · rename_i r hr
        rw [oesF_spec hr]
        exact h
      · cases h
    · cases h

mutual
/-- A heap without what nobody names any more: the names in a value. -/
def nmA (m : Nat) : AV → List Nat → List Nat
  | .ptr b _ _, acc => match Nat.ble m b with
    | true => b :: acc
    | false => acc
  | .own b _ _, acc => match Nat.ble m b with
    | true => b :: acc
    | false => acc
  | .omap b, acc => match Nat.ble m b with
    | true => b :: acc
    | false => acc
  | .fn _ xs ys, acc => nmL m xs (nmL m ys acc)
  | .ifc _ v, acc => nmA m v acc
  | .agg xs, acc => nmL m xs acc
  | .tup xs, acc => nmL m xs acc
  | _, acc => acc
def nmL (m : Nat) : List AV → List Nat → List Nat
  | [], acc => acc
  | x :: xs, acc => nmL m xs (nmA m x acc)
end

def nmB (m : Nat) : Blk → List Nat → List Nat
  | .cells _ xs, acc => nmL m xs acc
  | .map es, acc => es.foldl (fun a p => nmA m p.1 (nmA m p.2 a)) acc

def memF : List Nat → Nat → Bool
  | [], _ => false
  | i :: t, j => match Nat.beq i j with
    | true => true
    | false => memF t j

def reachN (m : Nat) (h : Heap) : Nat → List Nat → List Nat → List Nat
  | 0, _, seen => seen
  | _ + 1, [], seen => seen
  | k + 1, b :: w, seen => match memF seen b with
    | true => reachN m h k w seen
    | false => match hgetF h b with
      | some B => reachN m h k (nmB m B w) (b :: seen)
      | none => reachN m h k w seen

def oldRoots (m : Nat) : Heap → List Nat → List Nat
  | [], acc => acc
  | (i, B) :: t, acc => match Nat.blt i m with
    | true => oldRoots m t (nmB m B acc)
    | false => oldRoots m t acc

def keepH (p : Nat → Bool) : Heap → Heap
  | [] => []
  | (i, B) :: t => match p i with
    | true => (i, B) :: keepH p t
    | false => keepH p t

theorem keepH_get (p : Nat → Bool) : ∀ (h : Heap) (b : Nat) (B : Blk), hget (keepH p h) b = some B → hget h b = some B
  | [], _, _, h => by cases h
  | (i, X) :: t, b, B, h => by
    unfold keepH at h
    cases hp : p i with
    | true =>
      rw [hp] at h
      simp only [hget] at h ⊢
      split
      · rename_i e; rw [if_pos e] at h; exact h
      · rename_i e; rw [if_neg e] at h; exact keepH_get p t b B h
    | false =>
      rw [hp] at h
      simp only [hget]
      split
      · rename_i e
        subst e
        have : ∀ (t : Heap), hget (keepH p t) i = none := by
          intro t
          induction t with
          | nil => rfl
          | cons q t ih =>
            obtain ⟨j, Y⟩ := q
            unfold keepH
            cases hj : p j with
            | true =>
              simp only [hget]
              rw [if_neg (fun e => by rw [e, hp] at hj; cases hj)]
              exact ih
            | false => exact ih
        rw [this t] at h
        cases h
      · exact keepH_get p t b B h

def newer (m : Nat) : Heap → Nat
  | [] => 0
  | (i, _) :: t => match Nat.ble m i with
    | true => newer m t + 1
    | false => newer m t

def gcH (m : Nat) (roots : List Nat) (h : Heap) : Heap :=
  match reachN m h 100000 (oldRoots m h roots) [] with
  | seen => keepH (fun b => Nat.blt b m || memF seen b) h

theorem gcH_get (m : Nat) (roots : List Nat) (h : Heap) (b : Nat) (B : Blk) (hb : hget (gcH m roots h) b = some B) : hget h b = some B := keepH_get _ _ _ _ hb

def bytesOf : List AV → Option (List UInt8)
  | [] => some []
  | .int .u8 n :: t => match n, bytesOf t with
    | .ofNat m, some r => if Nat.blt m 256 then some (UInt8.ofNat m :: r) else none
    | _, _ => none
  | _ :: _ => none

def szOf (P : Program) (t : TypeId) : Option Nat := (P.info? t).map (·.size)

def intBin (b : BinOp) (k : IntKind) (m m' : Int) : Option AV :=
  match b with
  | .add => some (.int k (k.wrap (m + m')))
  | .sub => some (.int k (k.wrap (m - m')))
  | .mul => some (.int k (k.wrap (m * m')))
  | .quo => if m' = 0 then none else some (.int k (k.wrap (m.tdiv m')))
  | .rem => if m' = 0 then none else some (.int k (m.tmod m'))
  | .and => some (.int k (bits .and k m m'))
  | .or => some (.int k (bits .or k m m'))
  | .xor => some (.int k (bits .xor k m m'))
  | .eql => some (.bool (decide (m = m')))
  | .neq => some (.bool (decide (m ≠ m')))
  | .lss => some (.bool (decide (m < m')))
  | .leq => some (.bool (decide (m ≤ m')))
  | .gtr => some (.bool (decide (m > m')))
  | .geq => some (.bool (decide (m ≥ m')))
  | _ => none

def shBin (b : BinOp) (k : IntKind) (m m' : Int) : Option AV :=
  if 0 ≤ m' ∧ m' ≤ k.bits then
    match b with
    | .shl => some (.int k (k.wrap (m * 2 ^ m'.toNat)))
    | .shr => some (.int k (m / 2 ^ m'.toNat))
    | _ => none
  else none

def strBin (b : BinOp) (l l' : List UInt8) : Option AV :=
  match b with
  | .eql => some (.bool (decide (l = l')))
  | .neq => some (.bool (decide (l ≠ l')))
  | .lss => some (.bool (bless l l'))
  | .leq => some (.bool (bless l l' || l == l'))
  | .gtr => some (.bool (!(bless l l' || l == l')))
  | .geq => some (.bool (!bless l l'))
  | .add => if l.length + l'.length ≤ 9223372036854775807 then some (sb (l ++ l')) else none
  | _ => none

def nilP? : AV → Option Bool
  | .ptr _ _ _ => some false
  | .nilp => some true
  | _ => none
def nilS? : AV → Option Bool
  | .sl _ (_ :: _) => some false
  | .own _ _ (_ + 1) => some false
  | .nils => some true
  | _ => none

def isNilConst : Operand → Bool
  | .const (.pointer none) => true
  | _ => false
def isNilsConst : Operand → Bool
  | .const (.slice none 0 0) => true
  | _ => false

/-- Structs of numbers, truths and texts, field by field. -/
def eqFA (P : Program) : List Field → List AV → List AV → Option Bool
  | [], _, _ => some true
  | f :: fs, xs, ys => if f.name = "_" then none else match P.underlying f.type, xs[f.offset]?, ys[f.offset]? with
    | some (.int _), some (.int k m), some (.int k' m') => if k = k' then (if m = m' then eqFA P fs xs ys else some false) else none
    | some .bool, some (.bool p), some (.bool q) => if p == q then eqFA P fs xs ys else some false
    | some .string, some (.str s), some (.str s') => if s.data.toList = s'.data.toList then eqFA P fs xs ys else some false
    | _, _, _ => none

def stepBin (P : Program) (b : BinOp) (t : TypeId) (x y : Operand) (tm : List (Nat × AV)) : Option AV :=
  match oeF tm x with
  | some (.int k m) => match oeF tm y with
    | some (.int k' m') => match b with
      | .shl => shBin .shl k m m'
      | .shr => shBin .shr k m m'
      | b => if k = k' then intBin b k m m' else none
    | _ => none
  | some (.str s) => match oeF tm y with
    | some (.str s') => strBin b s.data.toList s'.data.toList
    | _ => none
  | some (.bool p) => match oeF tm y, P.underlying t with
    | some (.bool q), some .bool => match b with
      | .eql => some (.bool (p == q))
      | .neq => some (.bool (p != q))
      | _ => none
    | _, _ => none
  | some v => match P.underlying t with
    | some (.slice _) => if isNilsConst y then match nilS? v, b with
        | some r, .eql => some (.bool r)
        | some r, .neq => some (.bool (!r))
        | _, _ => none
      else none
    | some (.pointer e) => if isNilConst y && Nat.beq e (P.pointee t) then match nilP? v, b with
        | some r, .eql => some (.bool r)
        | some r, .neq => some (.bool (!r))
        | _, _ => none
      else none
    | some (.struct fs) => match v, oeF tm y with
      | .agg xs, some (.agg ys) => if !(P.stoodInHeld t) && !(P.eqGuardType P.depth t) then match eqFA P fs.toList xs ys, b with
          | some r, .eql => some (.bool r)
          | some r, .neq => some (.bool (!r))
          | _, _ => none
        else none
      | _, _ => none
    | _ => none
  | none => none

def bound (tm : List (Nat × AV)) (o : Option Operand) (dflt : Nat) : Option Nat :=
  match o with
  | none => some dflt
  | some x => match oeF tm x with
    | some (.int _ (.ofNat m)) => some m
    | _ => none

def partsS (P : Program) (tm : List (Nat × AV)) (fs : Array Field) : List (Nat × Operand) → Option (List (Nat × AV))
  | [] => some []
  | (i, x) :: t => match fs[i]?, oeF tm x, partsS P tm fs t with
    | some f, some v, some r => match szOf P f.type with
      | some m => if v.known && Nat.beq m v.cells.length then some ((f.offset, v) :: r) else none
      | none => none
    | _, _, _ => none

def stepV0 (P : Program) (tm : List (Nat × AV)) (x : Operand) : Option AV :=
  oeF tm x

def stepV1 (P : Program) (tm : List (Nat × AV)) (x : Operand) : Option AV :=
  oeF tm x

def stepV2 (P : Program) (tm : List (Nat × AV)) (q : Operand) (x : Operand) (y : Operand) : Option AV :=
  match oeF tm q with
    | some (.bool true) => oeF tm x
    | some (.bool false) => oeF tm y
    | _ => none

def stepV3 (P : Program) (tm : List (Nat × AV)) (x : Operand) : Option AV :=
  match oeF tm x with
    | some (.ptr b i o) => some (.ptr b i o)
    | some (.lp cs) => some (.lp cs)
    | some (.fn (.func f) a b) => some (.fn (.func f) a b)
    | _ => none

def stepV4 (P : Program) (tm : List (Nat × AV)) (x : Operand) : Option AV :=
  match oeF tm x with
    | some (.bool b) => some (.bool (!b))
    | _ => none

def stepV5 (P : Program) (tm : List (Nat × AV)) (b : BinOp) (t : TypeId) (x : Operand) (y : Operand) : Option AV :=
  stepBin P b t x y tm

def stepV6 (P : Program) (tm : List (Nat × AV)) (s : TypeId) (d : TypeId) (x : Operand) : Option AV :=
  match oeF tm x, P.underlying s, P.underlying d with
    | some (.int _ m), some (.int _), some (.int k') => some (.int k' (k'.wrap m))
    | some (.str z), some .string, some .string => some (.str z)
    | some (.sl 1 xs), some (.slice e), some .string => match P.underlying e, bytesOf xs with
      | some (.int .u8), some l => some (sb l)
      | _, _ => none
    | some .nils, some (.slice e), some .string => match P.underlying e with
      | some (.int .u8) => some (sb [])
      | _ => none
    | _, _, _ => none

def stepV7 (P : Program) (tm : List (Nat × AV)) (t : TypeId) (parts : Array (Nat × Operand)) : Option AV :=
  match P.underlying t, P.info? t with
    | some (.struct fs), some i => match i.zero with
      | some (.agg z) => if (z.toList.map ofConst1).all AV.one && fs.toList.all (fun f => (szOf P f.type).isSome) then match partsS P tm fs parts.toList with
          | some ps => match fillA (z.toList.map ofConst1) ps with
            | some cs => some (.agg cs)
            | none => none
          | none => none
        else none
      | _ => none
    | _, _ => none

def stepV8 (P : Program) (tm : List (Nat × AV)) (fn : Fn) (fs : Array Operand) (cs : Array Operand) : Option AV :=
  match oesF tm fs.toList, oesF tm cs.toList with
    | some xs, some ys => some (.fn fn xs ys)
    | _, _ => none

def stepV9 (P : Program) (tm : List (Nat × AV)) (x : Operand) (i : Nat) : Option AV :=
  match oeF tm x with
    | some (.tup vs) => vs[i]?
    | _ => none

def stepV10 (P : Program) (tm : List (Nat × AV)) (t : TypeId) (x : Operand) (y : Operand) : Option AV :=
  match P.underlying t, oeF tm x, oeF tm y with
    | some .string, some (.str s), some (.int _ (.ofNat m)) => match s.data.toList[m]? with
      | some b => some (.int .u8 b.toNat)
      | none => none
    | _, _, _ => none

def stepV11 (P : Program) (tm : List (Nat × AV)) (s : TypeId) (x : Operand) (k : Nat) : Option AV :=
  match P.underlying s with
    | some (.struct fs) => match fs[k]? with
      | some f => match szOf P f.type with
        | some (_ + 1) => match oeF tm x with
          | some (.ptr b i o) => some (.ptr b i (o + f.offset))
          | some (.lp cs) => some (.lp (cs.drop f.offset))
          | _ => none
        | _ => none
      | none => none
    | _ => none

def stepV12 (P : Program) (tm : List (Nat × AV)) (t : TypeId) (x : Operand) (y : Operand) : Option AV :=
  match P.underlying t with
    | some (.slice e) => match oeF tm x, oeF tm y, szOf P e with
      | some (.sl sz xs), some (.int _ (.ofNat m)), some sz' => if sz = sz' then match xs[m]? with
          | some v => some (.lp v.cells)
          | none => none
        else none
      | _, _, _ => none
    | _ => none

def stepV13 (P : Program) (tm : List (Nat × AV)) (t : TypeId) (x : Operand) : Option AV :=
  match oeF tm x, P.underlying t with
    | some (.lp cs), some d => if isAggD d then match szOf P t with
        | some m => match part cs 0 m with
          | some ds => some (.agg ds)
          | none => none
        | none => none
      else cs[0]?
    | _, _ => none

def stepV14 (P : Program) (tm : List (Nat × AV)) (t : TypeId) (x : Operand) (lo : Option Operand) (hi : Option Operand) : Option AV :=
  match oeF tm x, P.underlying t with
    | some (.str s), some .string => match bound tm lo 0, bound tm hi s.data.toList.length with
      | some l, some m => if Nat.ble l m && Nat.ble m s.data.toList.length then some (sb ((s.data.toList.drop l).take (m - l))) else none
      | _, _ => none
    | some (.sl sz xs), some (.slice e) => match bound tm lo 0, bound tm hi xs.length, szOf P e with
      | some l, some m, some sz' => if sz = sz' ∧ (Nat.ble l m && Nat.ble m xs.length) = true then some (.sl sz ((xs.drop l).take (m - l))) else none
      | _, _, _ => none
    | some .nils, some (.slice e) => match bound tm lo 0, bound tm hi 0, szOf P e with
      | some 0, some 0, some _ => some .nils
      | _, _, _ => none
    | _, _ => none

def stepV15 (P : Program) (tm : List (Nat × AV)) (x : Operand) (t : TypeId) : Option AV :=
  match oeF tm x, P.underlying t with
    | some (.sl _ xs), some (.slice _) => some (.int .i64 xs.length)
    | some (.own _ _ len), some (.slice _) => some (.int .i64 len)
    | some .nils, some (.slice _) => some (.int .i64 0)
    | some (.str s), some .string => some (.int .i64 s.data.toList.length)
    | _, _ => none

def stepV16 (P : Program) (tm : List (Nat × AV)) (x : Operand) (t : TypeId) : Option AV :=
  match oeF tm x, P.underlying t with
    | some .nils, some (.slice _) => some (.int .i64 0)
    | _, _ => none

def stepV17 (P : Program) (tm : List (Nat × AV)) (x : Operand) (y : Operand) : Option AV :=
  match oeF tm x, oeF tm y with
    | some (.int k m), some (.int k' m') => if k = k' then some (.int k (min m m')) else none
    | _, _ => none

def stepV18 (P : Program) (tm : List (Nat × AV)) (x : Operand) (y : Operand) : Option AV :=
  match oeF tm x, oeF tm y with
    | some (.int k m), some (.int k' m') => if k = k' then some (.int k (max m m')) else none
    | _, _ => none

/-- What needs no heap. -/
def stepVa (P : Program) (tm : List (Nat × AV)) (t : TypeId) (x : Operand) : Option AV :=
  match oeF tm x with
  | some v => if P.concrete t then some (.ifc t v) else none
  | none => none

def stepVb (P : Program) (tm : List (Nat × AV)) (x : Operand) (t : TypeId) (ok : Bool) : Option AV :=
  match oeF tm x, P.underlying t with
  | some (.ifc t' v), some (.struct _) => if t' = t then some (if ok then .tup [v, .bool true] else v) else none
  | _, _ => none

def stepVc (P : Program) (tm : List (Nat × AV)) (t : TypeId) (x : Operand) (k : Nat) : Option AV :=
  match P.underlying t, oeF tm x with
  | some (.struct fs), some (.agg cs) => match fs[k]? with
    | some f => match P.underlying f.type with
      | some d => if isAggD d then match szOf P f.type with
          | some m => match part cs f.offset m with
            | some ds => some (.agg ds)
            | none => none
          | none => none
        else cs[f.offset]?
      | none => none
    | none => none
  | _, _ => none

def stepV (P : Program) (op : Op) (tm : List (Nat × AV)) : Option AV :=
  match op with
  | .field t x k => stepVc P tm t x k
  | .makeInterface t x => stepVa P tm t x
  | .typeAssert x _ t ok => stepVb P tm x t ok
  | .move x => stepV0 P tm x
  | .assign x => stepV1 P tm x
  | .pick q x y => stepV2 P tm q x y
  | .nilCheck x => stepV3 P tm x
  | .unOp .not _ x => stepV4 P tm x
  | .binOp b t x y _ => stepV5 P tm b t x y
  | .convert s d x => stepV6 P tm s d x
  | .build t parts => stepV7 P tm t parts
  | .makeFunc fn fs cs => stepV8 P tm fn fs cs
  | .extract x i => stepV9 P tm x i
  | .index t x y => stepV10 P tm t x y
  | .fieldAddr s x k => stepV11 P tm s x k
  | .indexAddr t x y => stepV12 P tm t x y
  | .load t x => stepV13 P tm t x
  | .slice t x lo hi none => stepV14 P tm t x lo hi
  | .call { callee := .builtin .len, args := ⟨[x]⟩, argTypes := ⟨[t]⟩ } => stepV15 P tm x t
  | .call { callee := .builtin .cap, args := ⟨[x]⟩, argTypes := ⟨[t]⟩ } => stepV16 P tm x t
  | .call { callee := .builtin .min, args := ⟨[x, y]⟩, argTypes := _ } => stepV17 P tm x y
  | .call { callee := .builtin .max, args := ⟨[x, y]⟩, argTypes := _ } => stepV18 P tm x y
  | _ => none

def stepH0 (P : Program) (tm : List (Nat × AV)) (h : Heap) (t : TypeId) (x : Operand) : Option AV :=
  match oeF tm x, P.underlying t with
    | some (.ptr b i o), some d => match hgetF h b with
      | some (.cells _ xs) => match xs[i]? with
        | some e => if isAggD d then match szOf P t with
            | some m => match part e.cells o m with
              | some cs => some (.agg cs)
              | none => none
            | none => none
          else e.cells[o]?
        | none => none
      | _ => none
    | _, _ => none

def stepH1 (P : Program) (tm : List (Nat × AV)) (h : Heap) (t : TypeId) (x : Operand) (y : Operand) : Option AV :=
  match P.underlying t with
    | some (.slice e) => match oeF tm x, oeF tm y, szOf P e with
      | some (.own b st len), some (.int _ (.ofNat m)), some sz => match hgetF h b with
        | some (.cells sz' _) => if Nat.blt m len && Nat.beq sz sz' then some (.ptr b (st + m) 0) else none
        | _ => none
      | _, _, _ => none
    | _ => none

def stepH2 (P : Program) (tm : List (Nat × AV)) (h : Heap) (t : TypeId) (x : Operand) (lo : Option Operand) (hi : Option Operand) : Option AV :=
  match oeF tm x, P.underlying t with
    | some (.own b st len), some (.slice e) => match bound tm lo 0, bound tm hi len, szOf P e with
      | some l, some m, some sz => match hgetF h b with
        | some (.cells sz' _) => if Nat.ble l m && Nat.ble m len && Nat.beq sz sz' then some (.own b (st + l) (m - l)) else none
        | _ => none
      | _, _, _ => none
    | _, _ => none

def stepH3 (P : Program) (tm : List (Nat × AV)) (h : Heap) (s : TypeId) (d : TypeId) (x : Operand) : Option AV :=
  match oeF tm x, P.underlying s, P.underlying d with
    | some (.own b st len), some (.slice e), some .string => match P.underlying e, hgetF h b with
      | some (.int .u8), some (.cells 1 xs) => if Nat.ble (st + len) xs.length then match bytesOf ((xs.drop st).take len) with
          | some l => some (sb l)
          | none => none
        else none
      | _, _ => none
    | _, _, _ => none

/-- What looks at the heap. -/
def stepH (P : Program) (op : Op) (tm : List (Nat × AV)) (h : Heap) : Option AV :=
  match op with
  | .load t x => stepH0 P tm h t x
  | .indexAddr t x y => stepH1 P tm h t x y
  | .slice t x lo hi none => stepH2 P tm h t x lo hi
  | .convert s d x => stepH3 P tm h s d x
  | _ => none

def zeroOK (z : Value) (sz : Nat) : Bool := Nat.beq z.cells.size sz && z.cells.toList.all fun u => u.oneCell'

def srcS (tm : List (Nat × AV)) (h : Heap) (y : Operand) (str : Bool) (sz : Nat) : Option (List AV) :=
  match oeF tm y with
  | some (.str s) => if str && Nat.beq sz 1 then some (bl s.data.toList) else none
  | some (.sl sz' xs) => if !str && Nat.beq sz sz' && xs.all (fun x => Nat.beq x.cells.length sz) then some xs else none
  | some .nils => if str then none else some []
  | some (.own b st len) => match hgetF h b with
    | some (.cells sz' xs) => if !str && Nat.beq sz sz' && Nat.ble (st + len) xs.length && xs.all (fun x => Nat.beq x.cells.length sz) then some ((xs.drop st).take len) else none
    | _ => none
  | _ => none

def elemInfo (P : Program) (e : TypeId) : Option (Value × Nat × Nat) :=
  match P.info? e with
  | some i => match i.zero with
    | some z => if zeroOK z i.size && Nat.blt 0 i.size then some (z, i.size, i.bytes) else none
    | none => none
  | none => none

def rangeOK : Nat → List (Nat × Operand) → Bool
  | _, [] => true
  | i, p :: t => Nat.beq p.1 i && rangeOK (i + 1) t

def stepO0 (P : Program) (tm : List (Nat × AV)) (h : Heap) (nx : Nat) (x : Operand) : Option (AV × Heap × Nat) :=
  match oeF tm x with
    | some v => if v.known then some (.ptr nx 0 0, (nx, .cells v.cells.length [v]) :: h, nx + 1) else none
    | none => none

def stepO1 (P : Program) (tm : List (Nat × AV)) (h : Heap) (nx : Nat) (t : TypeId) : Option (AV × Heap × Nat) :=
  match P.info? t with
    | some i => match i.zero with
      | some z => match constS z with
        | some v => if v.known then some (.ptr nx 0 0, (nx, .cells v.cells.length [v]) :: h, nx + 1) else none
        | none => none
      | none => none
    | none => none

def stepO2 (P : Program) (tm : List (Nat × AV)) (h : Heap) (nx : Nat) (t : TypeId) (x : Operand) (y : Operand) : Option (AV × Heap × Nat) :=
  match P.underlying t with
    | some (.slice e) => match elemInfo P e, oeF tm x, oeF tm y with
      | some (z, sz, bytes), some (.int _ (.ofNat m)), some (.int _ (.ofNat m')) => match constS z with
        | some v => if v.known && Nat.beq v.cells.length sz && Nat.beq m m' && Nat.ble (bytes * m) 281474976710656 && Nat.ble m 9223372036854775807 then some (.own nx 0 m, (nx, .cells sz (List.replicate m v)) :: h, nx + 1) else none
        | none => none
      | _, _, _ => none
    | _ => none

def stepO3 (P : Program) (tm : List (Nat × AV)) (h : Heap) (nx : Nat) (t : TypeId) (len : Nat) (parts : Array (Nat × Operand)) : Option (AV × Heap × Nat) :=
  match P.underlying t with
    | some (.slice e) => match elemInfo P e, oesF tm (parts.toList.map (·.2)) with
      | some (_, sz, _), some vs => if rangeOK 0 parts.toList && Nat.beq vs.length len && Nat.ble (len * sz) 16777216 && vs.all (fun v => v.known && Nat.beq v.cells.length sz) then some (.own nx 0 len, (nx, .cells sz vs) :: h, nx + 1) else none
      | _, _ => none
    | _ => none

def stepO4 (P : Program) (tm : List (Nat × AV)) (h : Heap) (nx : Nat) (t : TypeId) (x : Operand) (y : Operand) : Option (AV × Heap × Nat) :=
  match oeF tm x, oeF tm y, szOf P t with
    | some (.ptr b i o), some v, some m => match hgetF h b with
      | some (.cells sz xs) => match xs[i]? with
        | some e => if v.known && Nat.beq e.cells.length sz && Nat.beq v.cells.length m then
            (if e.one && v.one && Nat.beq sz 1 && Nat.beq o 0 && Nat.beq m 1 then match setS xs i v with
              | some xs' => match hsetS h b (.cells sz xs') with
                | some h' => some (.top, h', nx)
                | none => none
              | none => none
            else match spl e.cells o v.cells with
              | some cs => match setS xs i (.agg cs) with
                | some xs' => match hsetS h b (.cells sz xs') with
                  | some h' => some (.top, h', nx)
                  | none => none
                | none => none
              | none => none)
          else none
        | none => none
      | _ => none
    | _, _, _ => none

def stepO5 (P : Program) (tm : List (Nat × AV)) (h : Heap) (nx : Nat) (x : Operand) (y : Operand) (t : TypeId) (tx : TypeId) : Option (AV × Heap × Nat) :=
  match P.underlying t, P.underlying tx with
    | some (.slice e), some (.int _) => match elemInfo P e, oeF tm x, oeF tm y with
      | some (_, sz, bytes), some .nils, some (.int _ (.ofNat (m + 1))) => if Nat.ble ((m + 1) * bytes) 140737488355328 && Nat.ble (m + 1) 140737488355328 then some (.own nx 0 (m + 1), (nx, .cells sz []) :: h, nx + 1) else none
      | _, _, _ => none
    | some (.slice e), some dx => match elemInfo P e, (match dx with | .string => some true | .slice _ => some false | _ => none) with
      | some (_, sz, bytes), some str => match srcS tm h y str sz, oeF tm x with
        | some ys, some .nils => if Nat.ble (ys.length * bytes) 140737488355328 && Nat.ble ys.length 9223372036854775807 then some (.own nx 0 ys.length, (nx, .cells sz ys) :: h, nx + 1) else none
        | some ys, some (.own b st len) => match hgetF h b with
          | some (.cells sz' xs) => if Nat.beq st 0 && Nat.beq sz sz' && Nat.beq len xs.length && Nat.ble ((len + ys.length) * bytes) 140737488355328 && Nat.ble (len + ys.length) 9223372036854775807 then
              match hdelS h b with
              | some h2 => forceL (xs ++ ys) fun zs => some (.own nx 0 zs.length, (nx, .cells sz zs) :: h2, nx + 1)
              | none => none
            else none
          | _ => none
        | _, _ => none
      | _, _ => none
    | _, _ => none

def stepOc (P : Program) (tm : List (Nat × AV)) (h : Heap) (nx : Nat) (x : Operand) (t : TypeId) : Option (AV × Heap × Nat) :=
  match P.underlying t, oeF tm x with
  | some (.slice _), some .nils => some (.tup [], h, nx)
  | some (.slice _), some (.sl _ []) => some (.tup [], h, nx)
  | some (.slice _), some (.own _ _ 0) => some (.tup [], h, nx)
  | some (.slice e), some (.own b st (len + 1)) => match elemInfo P e, hgetF h b with
    | some (_, sz, _), some (.cells sz' xs) => if Nat.beq sz sz' && Nat.ble st xs.length then match hsetS h b (.cells sz (xs.take st)) with
        | some h' => some (.tup [], h', nx)
        | none => none
      else none
    | _, _ => none
  | _, _ => none

/-- What turns the heap, but for calls. -/
def stepO (P : Program) (op : Op) (tm : List (Nat × AV)) (h : Heap) (nx : Nat) : Option (AV × Heap × Nat) :=
  match op with
  | .box _ x => stepO0 P tm h nx x
  | .alloc t => stepO1 P tm h nx t
  | .makeSlice t x y => stepO2 P tm h nx t x y
  | .buildSlice t len parts => stepO3 P tm h nx t len parts
  | .store t x y => stepO4 P tm h nx t x y
  | .call { callee := .builtin .append, args := ⟨[x, y]⟩, argTypes := ⟨[t, tx]⟩ } => stepO5 P tm h nx x y t tx
  | .call { callee := .builtin .clear, args := ⟨[x]⟩, argTypes := ⟨[t]⟩ } => stepOc P tm h nx x t
  | _ => none

/-- What leaves the heap alone but makes what is read alone. -/
def stepF (P : Program) (op : Op) (tm : List (Nat × AV)) : Option AV :=
  match op with
  | .buildSlice t len parts => match P.underlying t with
    | some (.slice e) => match elemInfo P e, oesF tm (parts.toList.map (·.2)) with
      | some (_, sz, _), some vs => if rangeOK 0 parts.toList && Nat.beq vs.length len && Nat.ble (len * sz) 16777216 && vs.all (fun v => v.known && Nat.beq v.cells.length sz) && vs.all AV.plain then some (.sl sz vs) else none
      | _, _ => none
    | _ => none
  | .convert s d x => match oeF tm x, P.underlying s, P.underlying d with
    | some (.str z), some .string, some (.slice e) => match P.underlying e with
      | some (.int .u8) => some (.sl 1 (bl z.data.toList))
      | _ => none
    | _, _, _ => none
  | _ => none

def forceN {α : Type} (n : Nat) (k : Nat → α) : α :=
  match n + 1 with
  | 0 => k n
  | m + 1 => k m

theorem forceN_eq {α : Type} (n : Nat) (k : Nat → α) : forceN n k = k n := rfl

def forceI {α : Type} (n : Int) (k : Int → α) : α :=
  match n with
  | .ofNat m => forceN m fun m => k (.ofNat m)
  | .negSucc m => forceN m fun m => k (.negSucc m)

def forceV {α : Type} (v : AV) (k : AV → α) : α :=
  match v with
  | .int i n => forceI n fun n => k (.int i n)
  | .bool b => match b with
    | true => k (.bool true)
    | false => k (.bool false)
  | .ptr b i o => forceN i fun i => forceN o fun o => k (.ptr b i o)
  | .own b st len => forceN st fun st => forceN len fun len => k (.own b st len)
  | v => k v

abbrev CF := FuncId → List AV → Heap → Nat → Option (AV × Heap × Nat)

def callArgs (tm : List (Nat × AV)) (c : Call) : Option (FuncId × List AV) :=
  match c.callee with
  | .value fo => match oeF tm fo, oesF tm c.args.toList with
    | some (.fn (.func f) first caps), some args => some (f, first ++ (args ++ caps))
    | _, _ => none
  | _ => none

def isCall : Op → Option Call
  | .call c => match c.callee with
    | .value _ => some c
    | _ => none
  | _ => none

def isInv : Op → Option (Operand × String × Array Operand)
  | .call c => match c.callee with
    | .invoke r m => some (r, m, c.args)
    | _ => none
  | _ => none

def methF (P : Program) (t : TypeId) (name : String) : Option (FuncId × Bool × TypeId) :=
  match P.info? t, P.underlying t with
  | some i, some (.pointer e) => match i.methods.find? (·.name == name) with
    | some m => match m.path.toList, m.func with
      | [], some (f, pr) => some (f, pr, e)
      | _, _ => none
    | none => none
  | _, _ => none

/-- A method of a value behind an interface. -/
def anyI (P : Program) (cf : CF) (r : Operand) (m : String) (xs : Array Operand) (tm : List (Nat × AV)) (h : Heap) (nx : Nat) : Option (AV × Heap × Nat) :=
  match oeF tm r, oesF tm xs.toList with
  | some (.ifc t (.ptr b i o)), some as => match methF P t m with
    | some (f, pr, e) => match (if pr then some (.ptr b i o) else stepH0 P [(0, .ptr b i o)] h e (.tmp 0)) with
      | some rv => match cf f (rv :: as) h nx with
        | some (v, h', nx') => if Nat.ble nx nx' then some (v, h', nx') else none
        | none => none
      | none => none
    | none => none
  | _, _ => none

def ordOf : Op → Nat
  | .box _ _ => 2
  | .alloc _ => 2
  | .makeSlice _ _ _ => 2
  | .buildSlice _ _ _ => 2
  | .store _ _ _ => 2
  | .load _ _ => 1
  | .indexAddr _ _ _ => 1
  | .slice _ _ _ _ _ => 1
  | .convert _ _ _ => 1
  | .call _ => 3
  | _ => 0

def anyV (P : Program) (op : Op) (tm : List (Nat × AV)) (h : Heap) (nx : Nat) : Option (AV × Heap × Nat) :=
  match stepV P op tm with
  | some v => some (v, h, nx)
  | none => none

def anyH (P : Program) (op : Op) (tm : List (Nat × AV)) (h : Heap) (nx : Nat) : Option (AV × Heap × Nat) :=
  match stepH P op tm h with
  | some v => some (v, h, nx)
  | none => match stepV P op tm with
    | some v => some (v, h, nx)
    | none => match stepF P op tm with
      | some v => some (v, h, nx)
      | none => none

def anyC (P : Program) (cf : CF) (op : Op) (tm : List (Nat × AV)) (h : Heap) (nx : Nat) : Option (AV × Heap × Nat) :=
  match isCall op with
  | some c => match callArgs tm c with
    | some (f, args) => match cf f args h nx with
      | some (r, h', nx') => if Nat.ble nx nx' then some (r, h', nx') else none
      | none => none
    | none => none
  | none => match isInv op with
    | some (r, m, xs) => anyI P cf r m xs tm h nx
    | none => match stepV P op tm with
      | some v => some (v, h, nx)
      | none => stepO P op tm h nx

/-- An operation in its place: its value, and what becomes of the heap. -/
def stepAny (P : Program) (cf : CF) (op : Op) (tm : List (Nat × AV)) (h : Heap) (nx : Nat) : Option (AV × Heap × Nat) :=
  match ordOf op with
  | 0 => anyV P op tm h nx
  | 1 => anyH P op tm h nx
  | 2 => stepO P op tm h nx
  | _ => anyC P cf op tm h nx

def dstOK (n : Nat) : Option Nat → Bool
  | none => true
  | some d => Nat.blt d n

def putF {α : Type} (d : Option Nat) (v : AV) (st : St) (k : St → α) : α :=
  match d with
  | some d => forceV v fun v => forceN st.nx fun nx => k ⟨(d, v) :: st.tm, st.h, nx⟩
  | none => forceN st.nx fun nx => k ⟨st.tm, st.h, nx⟩

def tgTop (tm : List (Nat × AV)) (d : Nat) : AV := match tgF tm d with
  | some v => v
  | none => .top

def gdst (ops : List Oper) (j : Nat) : Option Nat :=
  match ops[j]? with
  | some o => o.dst
  | none => none

/-- A region in its text's order. -/
def runOps (P : Program) (cf : CF) (n : Nat) (ops : List Oper) : List Oper → St → Option St
  | [], st => some st
  | o :: rest, st => if dstOK n o.dst then
      match o.guard with
      | none => match stepAny P cf o.op st.tm st.h st.nx with
        | some (v, h', nx') => putF o.dst v ⟨st.tm, h', nx'⟩ fun st' => runOps P cf n ops rest st'
        | none => none
      | some (j, b) => match gdst ops j with
        | some d => if Nat.blt d n then
            match gv (tgTop st.tm d) with
            | some g => if g == some b then
                match stepAny P cf o.op st.tm st.h st.nx with
                | some (v, h', nx') => putF o.dst v ⟨st.tm, h', nx'⟩ fun st' => runOps P cf n ops rest st'
                | none => none
              else putF o.dst (.tup []) st fun st' => runOps P cf n ops rest st'
            | none => none
          else none
        | none => none
    else none

mutual
/-- What is handed to a quiet call: rows of one's own are lent. -/
def lend1 (h : Heap) : AV → Option (Bool × AV)
  | .own b st len => match hgetF h b with
    | some (.cells sz xs) => if Nat.ble (st + len) xs.length && xs.all AV.plain then some (true, .sl sz ((xs.drop st).take len)) else none
    | _ => none
  | .agg xs => match lends h xs with
    | some (u, ys) => some (u, .agg ys)
    | none => none
  | v => if v.plain then some (false, v) else none
def lends (h : Heap) : List AV → Option (Bool × List AV)
  | [] => some (false, [])
  | x :: xs => match lend1 h x, lends h xs with
    | some (u, y), some (u', ys) => some (u || u', y :: ys)
    | _, _ => none
end

mutual
/-- What comes back is from then on read alone. -/
def frz1 (h : Heap) : AV → Option AV
  | .own b st len => match hgetF h b with
    | some (.cells sz xs) => if Nat.ble (st + len) xs.length && xs.all AV.plain then some (.sl sz ((xs.drop st).take len)) else none
    | _ => none
  | .agg xs => match frz2 h xs with
    | some ys => some (.agg ys)
    | none => none
  | .tup xs => match frz2 h xs with
    | some ys => some (.tup ys)
    | none => none
  | v => if v.plain then some v else none
def frz2 (h : Heap) : List AV → Option (List AV)
  | [] => some []
  | x :: xs => match frz1 h x, frz2 h xs with
    | some y, some ys => some (y :: ys)
    | _, _ => none
end

/-- Quiet, whatever the heap is. -/
def stepQ0 (P : Program) (cf : CF) (op : Op) (tm : List (Nat × AV)) : Option AV :=
  match isCall op with
  | some c => match callArgs tm c with
    | some (f, args) => if plains args then match cf f args [] 0 with
        | some (r, h', _) => frz1 h' r
        | none => none
      else none
    | none => none
  | none => match stepV P op tm with
    | some v => some v
    | none => stepF P op tm

/-- Quiet, at this heap. -/
def stepQ (P : Program) (cf : CF) (op : Op) (tm : List (Nat × AV)) (h : Heap) : Option AV :=
  match isCall op with
  | some c => match callArgs tm c with
    | some (f, args) => match lends h args with
      | some (_, largs) => match cf f largs [] 0 with
        | some (r, h', _) => if r.nosl && h'.all fun p => p.2.nosl then frz1 h' r else none
        | none => none
      | none => none
    | none => none
  | none => match stepV P op tm with
    | some v => some v
    | none => match stepH P op tm h with
      | some v => some v
      | none => stepF P op tm

mutual
def avEq : AV → AV → Bool
  | .top, .top => true
  | .bool a, .bool b => a == b
  | .int k n, .int k' n' => k == k' && n == n'
  | .str s, .str s' => s.data.toList == s'.data.toList
  | .nilp, .nilp => true
  | .ptr b i o, .ptr b' i' o' => Nat.beq b b' && Nat.beq i i' && Nat.beq o o'
  | .lp cs, .lp cs' => avsEq cs cs'
  | .nils, .nils => true
  | .sl sz xs, .sl sz' xs' => Nat.beq sz sz' && avsEq xs xs'
  | .own b st len, .own b' st' len' => Nat.beq b b' && Nat.beq st st' && Nat.beq len len'
  | .nilm, .nilm => true
  | .omap b, .omap b' => Nat.beq b b'
  | .fn f xs ys, .fn f' xs' ys' => decide (f = f') && avsEq xs xs' && avsEq ys ys'
  | .nilf, .nilf => true
  | .nili, .nili => true
  | .agg xs, .agg xs' => avsEq xs xs'
  | .tup xs, .tup xs' => avsEq xs xs'
  | _, _ => false
def avsEq : List AV → List AV → Bool
  | [], [] => true
  | x :: xs, y :: ys => avEq x y && avsEq xs ys
  | _, _ => false
end

def blkEq : Blk → Blk → Bool
  | .cells sz xs, .cells sz' xs' => Nat.beq sz sz' && avsEq xs xs'
  | _, _ => false

/-- The plan of a region whose order is open: per operation its kind (0 free, 1 quiet, 2 turns the heap) and what it reads; the stages (those that have run; how one comes there); where the text's own stages are; per operation the stages at which it may, at which it may not have run; other places of operations; the last stage. -/
structure PL where
  its : List (Nat × List Nat)
  sp : List (List Nat × Nat × Nat)
  tp : List Nat
  dn : List (List Nat)
  un : List (List Nat)
  ex : List (Nat × Nat × Nat)
  m : Nat

/-- What an operation came to: its value, whether it turned the heap, what it saw. -/
structure IV where
  v : AV
  ef : Bool
  tm : List (Nat × AV)

def rankV (its : List IV) (i : Nat) : Nat := (its.take i).countP fun it => it.ef

def giv (its : List IV) (j : Nat) : Option (Option Bool) :=
  match its[its.length - 1 - j]? with
  | some it => gv it.v
  | none => none

def selF (tm : List (Nat × AV)) : List Nat → Option (List (Nat × AV))
  | [] => some []
  | k :: ks => match tgF tm k, selF tm ks with
    | some v, some r => some ((k, v) :: r)
    | _, _ => none

/-- One walk in the text's order: the values, the heaps, which operations are free. -/
def runDraw (P : Program) (cf : CF) : List Oper → List (Nat × List Nat) → List IV → List (Heap × Nat) → List Nat → St → Option (List IV × List (Heap × Nat) × List Nat × St)
  | [], [], its, hs, fr, st => some (its, hs, fr, st)
  | o :: rest, (k, ks) :: ps, its, hs, fr, st =>
      let go : Unit → Option (List IV × List (Heap × Nat) × List Nat × St) := fun _ => match selF st.tm ks with
        | some tm1 => match k with
          | 0 => match stepQ0 P cf o.op tm1 with
            | some v => forceV v fun v => runDraw P cf rest ps (⟨v, false, tm1⟩ :: its) hs (its.length :: fr) (putA o.dst v st)
            | none => none
          | 1 => match stepQ P cf o.op tm1 st.h with
            | some v => forceV v fun v => runDraw P cf rest ps (⟨v, false, tm1⟩ :: its) hs fr (putA o.dst v st)
            | none => none
          | _ => match stepAny P cf o.op tm1 st.h st.nx with
            | some (v, h', nx') => forceV v fun v => forceN nx' fun nx' => runDraw P cf rest ps (⟨v, true, tm1⟩ :: its) ((h', nx') :: hs) fr (putA o.dst v ⟨st.tm, h', nx'⟩)
            | none => none
        | none => none
      match o.guard with
      | none => go ()
      | some (j, b) => if Nat.blt j its.length then match giv its j with
          | some g => if g == some b then go () else
              if Nat.ble 2 k then runDraw P cf rest ps (⟨.tup [], true, []⟩ :: its) ((st.h, st.nx) :: hs) fr (putA o.dst (.tup []) st)
              else runDraw P cf rest ps (⟨.tup [], false, []⟩ :: its) hs (its.length :: fr) (putA o.dst (.tup []) st)
          | none => none
        else none
  | _, _, _, _, _, _ => none

def b0of (its : List IV) (hs : List (Heap × Nat)) (i : Nat) : Nat := match hs[rankV its i]? with
  | some p => p.2
  | none => 0
def b1of (its : List IV) (hs : List (Heap × Nat)) (i : Nat) : Nat := match hs[rankV its i + 1]? with
  | some p => p.2
  | none => 0

def skipV (its : List IV) (g : Option (Nat × Bool)) : Bool := match g with
  | some (j, b) => match its[j]? with
    | some r => match gv r.v with
      | some w => !(w == some b)
      | none => false
    | none => false
  | none => false

/-- The stages' heaps. -/
def mkSg (P : Program) (cf : CF) (l : List Oper) (its : List IV) (hs : List (Heap × Nat)) : List (List Nat × Nat × Nat) → List SG → Option (List SG)
  | [], acc => some acc
  | (e, 0, k) :: t, acc => match hs[k]? with
    | some (h, x) => mkSg P cf l its hs t (acc ++ [⟨e, h, x⟩])
    | none => none
  | (e, p + 1, i) :: t, acc => match acc[p]?, l[i]?, its[i]? with
    | some g, some o, some it =>
      if skipV its o.guard then mkSg P cf l its hs t (acc ++ [⟨e, g.h, b1of its hs i⟩])
      else match stepAny P cf o.op it.tm g.h (b0of its hs i) with
        | some (_, h', x') => mkSg P cf l its hs t (acc ++ [⟨e, h', x'⟩])
        | none => none
    | _, _, _ => none

def heapEq : Heap → Heap → Bool
  | [], [] => true
  | (i, B) :: t, (j, C) :: u => Nat.beq i j && blkEq B C && heapEq t u
  | _, _ => false

def hrOK (X β β1 k : Nat) (H1 H2 : Heap) : Bool :=
  H2.all fun p => match hgetF H2 p.1 with
    | some B =>
      let b1 := if Nat.ble β p.1 && Nat.blt p.1 (β + k) then p.1 - β + X else p.1
      match hgetF H1 b1 with
      | some B1 => Nat.beq (dwn X β b1) p.1 && blkEq (B1.ren (dwn X β)) B && (Nat.ble X b1 || Nat.blt b1 β || Nat.ble β1 b1)
      | none => false
    | none => false

/-- Another place of an operation. -/
def exOK (P : Program) (cf : CF) (l : List Oper) (its : List IV) (hs : List (Heap × Nat)) (sg : List SG) (q : Nat × Nat × Nat) : Bool :=
  match l[q.1]?, its[q.1]?, sg[q.2.1]? with
  | some o, some it, some g =>
    match o.guard with
    | some (j, b) => match its[j]? with
      | some r => match gv r.v with
        | some w => if w == some b then go o it g else if it.ef then match sg[q.2.2]? with
            | some g' => heapEq g.h g'.h && Nat.ble g.x g'.x
            | none => false
          else true
        | none => false
      | none => false
    | none => go o it g
  | _, _, _ => false
where go (o : Oper) (it : IV) (g : SG) : Bool :=
    if it.ef then match sg[q.2.2]? with
        | some g' =>
          if Nat.ble g.x (b0of its hs q.1) then match stepAny P cf o.op it.tm g.h (b0of its hs q.1) with
            | some (v, h', x') => avEq v it.v && heapEq h' g'.h && Nat.beq x' (b1of its hs q.1) && Nat.beq g'.x x'
            | none => false
          else Nat.ble (b1of its hs q.1) g.x && Nat.beq g'.x g.x && match stepAny P cf o.op it.tm g.h g.x with
            | some (v1, h1, x1) => Nat.ble g.x x1 && Nat.ble (b0of its hs q.1 + (x1 - g.x)) (b1of its hs q.1) && avEq (v1.ren (dwn g.x (b0of its hs q.1))) it.v && hrOK g.x (b0of its hs q.1) (b1of its hs q.1) (x1 - g.x) h1 g'.h
            | none => false
        | none => false
      else match stepQ P cf o.op it.tm g.h with
        | some v => avEq v it.v
        | none => false

def dnF (ll : List (List Nat)) (i s : Nat) : Bool := match ll[i]? with
  | some r => r.contains s
  | none => false

def sameS (l l' : List Nat) : Bool := l.all l'.contains && l'.all l.contains

def isEf (pl : PL) (i : Nat) : Bool := match pl.its[i]? with
  | some (k, _) => Nat.ble 2 k
  | none => false

def rankP (its : List (Nat × List Nat)) (i : Nat) : Nat := (its.take i).countP fun p => Nat.ble 2 p.1

/-- What is looked at without the values. -/
def chkX1 (l : List Oper) (pl : PL) (i : Nat) (o : Oper) (k : Nat) (ks : List Nat) : Bool :=
  let ns := List.range pl.sp.length
  (edges o).all (fun p => Nat.blt p i) &&
  (match o.dst with | none => true | some d => (l.take i).all fun o' => !dstIs o' d) &&
  (if Nat.ble 2 k then ns.all fun s => match pl.sp[s]? with
      | some q => (!(q.1.contains i) || dnF pl.dn i s) && (q.1.contains i || dnF pl.un i s)
      | none => true
    else ns.all fun s => (!((edges o).all fun p => dnF pl.dn p s) || dnF pl.dn i s) &&
      (!((List.range l.length).all fun j => match l[j]? with
          | some o' => !((edges o').contains i) || dnF pl.un j s
          | none => true) || dnF pl.un i s)) &&
  (ks.all fun k => ((edges o).any fun p => match l[p]? with | some o' => dstIs o' k | none => false) || l.all fun o' => !dstIs o' k || (edges o').contains i) &&
  (match o.guard with | none => true | some (j, _) => (edges o).contains j && match l[j]? with | some o' => o'.dst.isSome | none => false) &&
  -- where it may stand
  (ns.all fun s => !((edges o).all fun p => dnF pl.dn p s) || !(dnF pl.un i s) || Nat.beq k 0 || (match pl.tp[rankP pl.its i]? with | some s' => Nat.beq s s' | none => false) || pl.ex.any fun q => Nat.beq q.1 i && Nat.beq q.2.1 s) &&
  -- the text's own next stage
  (!(Nat.ble 2 k) || match pl.tp[rankP pl.its i]?, pl.tp[rankP pl.its i + 1]? with
    | some s, some s' => match pl.sp[s]?, pl.sp[s']? with
      | some q, some q' => sameS q'.1 (i :: q.1)
      | _, _ => false
    | _, _ => false)

def chkX (l : List Oper) (pl : PL) : Bool :=
  Nat.beq l.length pl.its.length &&
  ((List.range l.length).all fun i => match l[i]?, pl.its[i]? with
    | some o, some (k, ks) => chkX1 l pl i o k ks
    | _, _ => true) &&
  ((List.range pl.sp.length).all fun s => match pl.sp[s]? with
    | some q => Nat.beq s pl.m || (List.range pl.its.length).any fun i => isEf pl i && !(q.1.contains i)
    | none => true) &&
  (pl.ex.all fun q => match pl.sp[q.2.1]?, pl.sp[q.2.2]? with
    | some r, some r' => !(isEf pl q.1) || sameS r'.1 (q.1 :: r.1)
    | _, _ => false) &&
  ((List.range pl.tp.length).all fun k => match pl.tp[k]? with
    | some s => match pl.sp[s]? with
      | some (_, 0, k') => Nat.beq k k'
      | _ => false
    | none => true) &&
  (match pl.tp[0]?, pl.sp[0]? with
    | some 0, some ([], 0, 0) => true
    | _, _ => false) &&
  (match pl.tp[rankP pl.its pl.its.length]? with
    | some s => Nat.beq s pl.m
    | none => false)

def monoX : List (Heap × Nat) → Bool
  | p :: q :: t => Nat.ble p.2 q.2 && monoX (q :: t)
  | _ => true

/-- How a run goes: the plans of the regions, and what is done with calls. -/
structure Cfg where
  pl : Nat → Nat → Option PL
  wrap : CF → CF

def res1S (P : Program) (tm : List (Nat × AV)) (h : Heap) : ResultVar → Option AV
  | .tmp t => tgetS tm t
  | .cell a t => stepH P (.load t (.tmp a)) tm h

def ressS (P : Program) (tm : List (Nat × AV)) (h : Heap) : List ResultVar → Option (List AV)
  | [] => some []
  | r :: l => match res1S P tm h r, ressS P tm h l with
    | some x, some xs => some (x :: xs)
    | _, _ => none

def resS (P : Program) (l : List ResultVar) (tm : List (Nat × AV)) (h : Heap) : Option AV :=
  match ressS P tm h l with
  | some [x] => some x
  | some xs => some (.tup xs)
  | none => none

def rootsR (m : Nat) (tm : List (Nat × AV)) : List ResultVar → List Nat → List Nat
  | [], acc => acc
  | .tmp t :: l, acc => rootsR m tm l (match tgF tm t with
    | some v => nmA m v acc
    | none => acc)
  | .cell t _ :: l, acc => rootsR m tm l (match tgF tm t with
    | some v => nmA m v acc
    | none => acc)

/-- The end of a function: what it hands back, and a heap without what nobody names. -/
def retF (P : Program) (l : List ResultVar) (nx : Nat) (st : St) : Option (AV × Heap × Nat) :=
  forceL (gcH nx (rootsR nx st.tm l []) st.h) fun h' => match resS P l st.tm h' with
    | some r => forceV r fun r => forceN st.nx fun nx' => some (r, h', nx')
    | none => none

abbrev Self := Nat → Nat → Code → St → Option (Exit × St)

def callFn (P : Program) (self : Self) : CF := fun f args h nx =>
  match P.funcs[f]? with
  | some fn => match fn.body with
    | some body => if Nat.ble args.length fn.ntmps && h.all (fun p => Nat.blt p.1 nx) && !(fn.name == "runtime.NumGoroutine") then
        match self fn.ntmps f body ⟨argTm args, h, nx⟩ with
        | some (.normal, st) => retF P fn.results.toList nx st
        | some (.ret, st) => retF P fn.results.toList nx st
        | _ => none
      else none
    | none => none
  | none => none

def dom : List (Nat × AV) → List Nat → List Nat
  | [], acc => acc
  | (i, _) :: t, acc => match memF acc i with
    | true => dom t acc
    | false => dom t (i :: acc)

def nmT (m : Nat) : List (Nat × AV) → List Nat → List Nat
  | [], acc => acc
  | (_, v) :: t, acc => nmT m t (nmA m v acc)

def loopN (body : St → Option (Exit × St)) (ks : List Nat) (m : Nat) : Nat → St → Option (Exit × St)
  | 0, _ => none
  | k + 1, st => match body st with
    | some (.normal, st') => match selF st'.tm ks with
      | some tm' => forceL (gcH m (nmT m tm' []) st'.h) fun h' => loopN body ks m k ⟨tm', h', st'.nx⟩
      | none => none
    | r => r

def drawn (P : Program) (cf : CF) (n : Nat) (l : List Oper) (pl : PL) (st : St) : Option St :=
  if chkX l pl && (l.all fun o => dstOK n o.dst) then
    match runDraw P cf l pl.its [] [(st.h, st.nx)] [] st with
    | some (its, hs, _, st') => if monoX hs.reverse then
        match mkSg P cf l its.reverse hs.reverse pl.sp [] with
        | some sg => if pl.ex.all (exOK P cf l its.reverse hs.reverse sg) then some st' else none
        | none => none
      else none
    | none => none
  else none

def runStep (P : Program) (T : Cfg) (self : Self) : Self := fun n f code st =>
  match code with
  | .skip => some (.normal, st)
  | .exit id => some (.exit id, st)
  | .ret => some (.ret, st)
  | .seq x y => match self n f x st with
    | some (.normal, st') => self n f y st'
    | r => r
  | .block id x => match self n f x st with
    | some (.exit id', st') => if Nat.beq id' id then some (.normal, st') else some (.exit id', st')
    | r => r
  | .cond o x y => match oeF st.tm o with
    | some (.bool true) => self n f x st
    | some (.bool false) => self n f y st
    | _ => none
  | .loop x => loopN (fun st => self n f x st) (dom st.tm []) st.nx 1000000 st
  | .region id ops true => match T.pl f id with
    | some pl => match drawn P (T.wrap (callFn P self)) n ops.toList pl st with
      | some st' => some (.normal, st')
      | none => none
    | none => none
  | .region _ ops false => match runOps P (T.wrap (callFn P self)) n ops.toList ops.toList st with
    | some st' => some (.normal, st')
    | none => none
  | _ => none

def run (P : Program) (T : Cfg) (n : Nat) : Self := Nat.rec (fun _ _ _ _ => none) (fun _ self => runStep P T self) n

def runF (P : Program) (T : Cfg) (n : Nat) : CF := T.wrap (callFn P (run P T n))

/-- Calls whose arguments are lent: the callee begins with no heap. -/
def lendCF (pu : Nat → Bool) (cf : CF) : CF := fun f args h nx =>
  match h with
  | [] => cf f args [] nx
  | p :: t => match pu f with
    | true => match lends (p :: t) args with
      | some (_, largs) => match cf f largs [] 0 with
        | some (r, h', n') => if (r.nosl && h'.all fun p => p.2.nosl) && ((p :: t).all fun p => Nat.blt p.1 nx) then
            forceL (h'.map (fun q => (q.1 + nx, q.2.ren (fun b => b + nx))) ++ p :: t) fun h1 => some (r.ren (fun b => b + nx), h1, nx + n')
          else cf f args (p :: t) nx
        | none => cf f args (p :: t) nx
      | none => cf f args (p :: t) nx
    | false => cf f args (p :: t) nx

/-- A call that is known. -/
structure EN where
  f : FuncId
  args : List AV
  r : AV
  h : Heap
  nx : Nat

def tabF (f : FuncId) (args : List AV) : List EN → Option (AV × Heap × Nat)
  | [] => none
  | e :: t => match Nat.beq e.f f with
    | true => match avsEq e.args args with
      | true => some (e.r, e.h, e.nx)
      | false => tabF f args t
    | false => tabF f args t

/-- Calls that are known first. -/
def tabCF (tab : List EN) (cf : CF) : CF := fun f args h nx =>
  match h, nx with
  | [], 0 => match tabF f args tab with
    | some r => some r
    | none => cf f args [] 0
  | h, nx => cf f args h nx

end Go.Proofs.Ytloddmbbfkejcaa.Abs
