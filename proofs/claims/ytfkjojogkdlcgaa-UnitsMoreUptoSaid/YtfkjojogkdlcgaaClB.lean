/- Only what the next texts import. -/
import Derived.Test.YtfkjojogkdlcgaaClA
import Derived.Test.YtfkjojogkdlcgaaShelf
