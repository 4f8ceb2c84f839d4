/- The printed texts, together. -/
import Derived.Test.YtjpblaenebodlaaTW
import Derived.Test.YtjpblaenebodlaaTWr
import Derived.Test.YtjpblaenebodlaaTSort
